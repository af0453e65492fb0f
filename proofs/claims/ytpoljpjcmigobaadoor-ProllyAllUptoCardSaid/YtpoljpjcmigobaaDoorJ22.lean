/- Joined texts: Kq, BlobA, Kz, Ky. -/
import Derived.Test.YtpoljpjcmigobaaDoorJ1
import Derived.Test.YtpoljpjcmigobaaDoorJ21
import Derived.Test.YtpoljpjcmigobaaDoorJ15
import Derived.Orders
import Derived.Test.YtpoljpjcmigobaaDoorJ17
/- A row beside a store into a block of another type. -/
namespace Go.Proofs.YtpoljpjcmigobaaDoor
set_option linter.unusedVariables false
set_option linter.unusedSimpArgs false
open Go.RowKit K
namespace K
theorem own_store {w : World} {base e size n g T : Nat} {v : Value} {xs cs : List Value} (h : w.ownsRow base e size v n xs) (hg : Has w g cs T) (hT : T ≠ e) (o : Nat) (u : Value) : (w.setCell ⟨g, o, none⟩ u).ownsRow base e size v n xs :=
  own_keep h ((Mod.refl (fun k => k = g) w).set1 rfl o u) (fun k _ hk hs => has_ne hg (own_row h hk) hT hs)
theorem two0S {S : Nat → Prop} {P : Program} {ops : Array Oper} {Q : Exit → Act → World → Prop} {oi oj : Oper} (i j : Nat) {fuel : Nat} {listed : Array Bool} {a : Act} {w : World} (hr : Region.ready .any ops listed = [i, j]) (hi : ops[i]? = some oi) (hj : ops[j]? = some oj)
    (hwi : Region.wanted oi (yielded ops a.tmps) = true) (hwj : Region.wanted oj (yielded ops a.tmps) = true)
    (h : oi.wp P a w (fun a' w' => (Mod S w w' ∨ pivot .any ops i = true) ∧ wpAnyM (Mod S) P .any ops Q fuel (listed.setIfInBounds i true) a' w') Q)
    (h' : oj.wp P a w (fun a' w' => (Mod S w w' ∨ pivot .any ops j = true) ∧ wpAnyM (Mod S) P .any ops Q fuel (listed.setIfInBounds j true) a' w') Q) : wpAnyM (Mod S) P .any ops Q (fuel + 1) listed a w :=
  wpAnyM_two i j hr (by unfold wpOp; simp only [hi, hwi, if_true]; exact .inl h) (by unfold wpOp; simp only [hj, hwj, if_true]; exact .inl h')
theorem mod_realloc {S : Nat → Prop} {w : World} {o o' : Obj} (h : S w.heap.size) : Mod S (w.alloc o) (w.alloc o') := by
  refine ⟨rfl, rfl, rfl, by simp, fun k hk hs => ?_⟩
  have : k < w.heap.size := by
    rcases Nat.lt_or_ge k w.heap.size with h1 | h1
    · exact h1
    · have h2 : k < w.heap.size + 1 := by simpa using hk
      obtain rfl : k = w.heap.size := by omega
      exact absurd h hs
  rw [Below.heap_alloc _ _ _ this, Below.heap_alloc _ _ _ this]
theorem Cells.keep2 {S : Nat → Prop} {w w' : World} {A : Option Addr} {xs : List Value} (h : Cells w A xs) (m : Mod S w w') (hs : xs ≠ [] → ∀ a, A = some a → ¬ S a.block) : Cells w' A xs := by
  by_cases hx : xs = []
  · exact .inl hx
  · exact h.keep m (hs hx)
end K
end Go.Proofs.YtpoljpjcmigobaaDoor
/- The walks of the reference's Find, of what is a root; who answers with objects. -/
namespace Go.Proofs.YtpoljpjcmigobaaDoor
set_option linter.unusedVariables false
set_option linter.unusedSimpArgs false
open Go.RowKit K Wire
namespace Blob
open Go.Proofs.YtpoljpjcmigobaaDoor.Obj

def rightP (p : Part) : Bool := decide (p.id.size = 32) && decide (0 ≤ p.size) && decide (p.size ≤ 262144)
theorem findL_hit (id : ByteArray) : ∀ (l : List Ob) (k : Nat) (h : k < l.length), (∀ j, (hj : j < l.length) → j < k → l[j].id ≠ id) → l[k].id = id → findL l id = some l[k].bytes
  | [], k, h, _, _ => by simp at h
  | o :: l, 0, _, _, he => by simp only [List.getElem_cons_zero] at he ⊢; simp [findL, he]
  | o :: l, k + 1, h, hn, he => by
    have h0 := hn 0 (by simp) (by omega)
    simp only [List.getElem_cons_zero] at h0
    simp only [List.getElem_cons_succ] at he ⊢
    unfold findL
    rw [if_neg h0]
    exact findL_hit id l k (by simpa using h) (fun j hj hk => by have := hn (j + 1) (by simpa using hj) (by omega); simpa using this) he
theorem findL_miss (id : ByteArray) : ∀ (l : List Ob), (∀ j, (hj : j < l.length) → l[j].id ≠ id) → findL l id = none
  | [], _ => rfl
  | o :: l, h => by
    have h0 := h 0 (by simp)
    simp only [List.getElem_cons_zero] at h0
    unfold findL
    rw [if_neg h0]
    exact findL_miss id l (fun j hj => by have := h (j + 1) (by simpa using hj); simpa using this)
def gotB (o : Option ByteArray) : ByteArray := o.getD ⟨#[]⟩
def gotE (o : Option ByteArray) : Int := match o with | none => 3 | some _ => 0

set_option maxRecDepth 100000 in
set_option maxHeartbeats 1000000 in
theorem find_calls (A : Option Addr) (c : Nat) (objs : List Ob) (id : ByteArray) (w : World) (hA : Cells w A (objs.flatMap oc)) (hn : objs.length ≤ 100000000) :
    Calls Tryd.prog 43 #[.slice A objs.length c, .string id] w fun e w' => e = .returned (.tuple #[.string (gotB (findL objs id)), .int .i64 (gotE (findL objs id))]) ∧ w' = w := by
  have HA := Lib.hid hA
  clear hA
  obtain ⟨FL, hFL⟩ : ∃ FL, findL objs id = FL := ⟨_, rfl⟩
  rw [hFL]
  have HF := Lib.hid hFL
  clear hFL
  go_enter Tryd.func43, Tryd.ntmps43
  go_wp2_with fail
  go_loopw [6] (fun i wr => ∃ k : Nat, i = .int .i64 k ∧ k ≤ objs.length ∧ Hid (∀ j, (h : j < objs.length) → j < k → objs[j].id ≠ id) ∧ wr = w) (fun i _ => objs.length - (intOf i).toNat)
  case atStart => exact ⟨0, by go_num, Nat.zero_le _, Lib.hid (fun j _ hj => absurd hj (Nat.not_lt_zero _)), rfl⟩
  case round =>
    obtain ⟨k, rfl, hk, HN, rfl⟩ := hrel
    by_cases hlt : k < objs.length
    · have i1 : (k : Int) < (objs.length : Int) := by omega
      have i0 : (0 : Int) ≤ (k : Int) := by omega
      rcases HA.out with h | ⟨ba, o, rfl, hcell⟩
      · have := flat_len oc_len objs; rw [h] at this; simp at this; omega
      have y0 := hcell _ _ (flat_get oc_len objs k 0 hlt (by omega))
      have y1 := hcell _ _ (flat_get oc_len objs k 1 hlt (by omega))
      rw [Nat.add_zero] at y0
      rw [← Nat.add_assoc] at y1
      by_cases he : objs[k].id = id
      · have hf := findL_hit id objs k hlt HN.out he
        rw [HF.out] at hf
        obtain ⟨ob, hob⟩ : ∃ ob, objs[k] = ob := ⟨_, rfl⟩
        rw [hob] at y0 y1 he hf
        subst hf
        subst he
        clear hob
        clear hcell HN HF
        go_wp2_with fail
        refine bodyPost_ret (v := .tuple #[.string ob.bytes, .int .i64 0]) (by simp [results, Tryd.results43, go_sem]) rfl ⟨rfl, rfl⟩
      · have hn2 : ∀ j, (h : j < objs.length) → j < k + 1 → objs[j].id ≠ id := fun j h hj => by
          by_cases e : j = k
          · subst e; exact he
          · exact HN.out j h (by omega)
        have HN2 := Lib.hid hn2
        have heq : (objs[k].id.toList == id.toList) = false := (Lib.bytes_beq_false_iff _ _).2 he
        obtain ⟨ob, hob⟩ : ∃ ob, objs[k] = ob := ⟨_, rfl⟩
        rw [hob] at y0 y1 heq
        clear hcell hn2 he HN hob
        go_wp2_with fail
        go_roundw
        case rel => exact ⟨k + 1, by go_num, by omega, HN2, trivial⟩
        case measure => simp [intOf]; omega
    · have i1 : ¬ (k : Int) < (objs.length : Int) := by omega
      have hf := findL_miss id objs (fun j hj => HN.out j hj (by omega))
      rw [HF.out] at hf
      subst hf
      clear HN HF
      go_wp2_with fail
      refine bodyPost_ret (v := .tuple #[.string ⟨#[]⟩, .int .i64 3]) (by simp [results, Tryd.results43, go_sem]) rfl ⟨rfl, rfl⟩

/-! who answers -/
/-- blocks that a get turns -/
def Q (B : Nat) (w : World) (k : Nat) : Prop := B ≤ k ∧ ∃ cur fr T, w.heap[k]? = some (.cells cur T fr) ∧ (T = 9 ∨ T = 32)
/-- blocks that it needs -/
def R (B : Nat) (w : World) (k : Nat) : Prop := k < B ∨ ∃ cur fr T, w.heap[k]? = some (.cells cur T fr) ∧ (T = 9 ∨ T = 32 ∨ T = 25 ∨ T = 37)
theorem Q.r {B : Nat} {w : World} {k : Nat} (h : Q B w k) : R B w k := by
  obtain ⟨_, cur, fr, T, h1, h2⟩ := h
  exact .inr ⟨cur, fr, T, h1, h2.elim .inl (fun h => .inr (.inl h))⟩
theorem R.not {B : Nat} {w : World} {k : Nat} {T : TypeId} (h : ∃ cur fr, w.heap[k]? = some (.cells cur T fr)) (hb : B ≤ k) (h0 : T ≠ 9) (h1 : T ≠ 32) (h2 : T ≠ 25) (h4 : T ≠ 37) : ¬ R B w k := by
  rintro (hr | ⟨cur, fr, T', hc, ht⟩)
  · omega
  · obtain ⟨cur', fr', h⟩ := h
    rw [h] at hc
    obtain rfl : T = T' := by injection hc with hc; injection hc
    rcases ht with rfl | rfl | rfl | rfl <;> contradiction
theorem R.has {B : Nat} {w : World} {k : Nat} {cs : List Value} {T : TypeId} (h : Has w k cs T) (ht : T = 9 ∨ T = 32 ∨ T = 25 ∨ T = 37) : R B w k := .inr ⟨_, _, _, h, ht⟩
structure Gt where
  ks : Nat
  caps : Array Value
  B : Nat
  I : List ByteArray → World → Prop
def Gt.f (G : Gt) : Value := .func (.func G.ks) #[] G.caps
structure GtOk (G : Gt) (objs : List Ob) : Prop where
  keep : ∀ a w w' S, G.I a w → Mod S w w' → (∀ k, R G.B w k → ¬ S k) → G.I a w'
  enter : ∀ (w : World) s, (callFunc G.ks (#[.string s] ++ G.caps)).run Tryd.prog w = .ok (.enter G.ks (#[.string s] ++ G.caps)) w
  call : ∀ a w s, G.I a w → a.length ≤ 1000000000 → Calls Tryd.prog G.ks (#[.string s] ++ G.caps) w fun e w' => e = .returned (.tuple #[.string (gotB (findL objs s)), .int .i64 (gotE (findL objs s))]) ∧ G.I (a ++ [s]) w' ∧ Mod (Q G.B w) w w'
/-- turns of such blocks, one behind the other -/
theorem Q.trans {B : Nat} {S : Nat → Prop} {w w1 w2 : World} (h : Mod (fun k => Q B w k ∨ S k) w w1) (k : Mod (fun k => Q B w1 k ∨ S k) w1 w2) : Mod (fun k => Q B w k ∨ S k) w w2 :=
  Mod.trans h k (fun i hi hs => by
    rcases hs with hs | hs
    · by_cases hq : Q B w i ∨ S i
      · exact hq
      · obtain ⟨hb, cur, fr, T, h1, h2⟩ := hs
        rw [h.block i hi hq] at h1
        exact absurd (.inl ⟨hb, cur, fr, T, h1, h2⟩) hq
    · exact .inr hs)

set_option maxRecDepth 100000 in
theorem strs_t : SliceT Tryd.prog 32 9 1 16 := ⟨Tryd.underlying32, by decide, _, .string ByteArray.empty, rfl, rfl, rfl, rfl, rfl⟩
/-- who notes what is asked -/
structure AskIs (B b0 b1 b2 : Nat) (A : Option Addr) (c : Nat) (objs : List Ob) (v : Value) (a : List ByteArray) (w : World) : Prop where
  box1 : Has w b1 [.pointer (some ⟨b0, 0, none⟩)] 37
  box2 : Has w b2 [.slice A objs.length c] 25
  at0 : Has w b0 [v] 32
  own : w.ownsRow B 9 1 v a.length (a.map .string)
  row : Cells w A (objs.flatMap oc)
  low : objs.flatMap oc ≠ [] → ∀ ad, A = some ad → ad.block < B
  le : B ≤ b0
  many : objs.length ≤ 100000000
theorem AskIs.keep {B b0 b1 b2 : Nat} {A : Option Addr} {c : Nat} {objs : List Ob} {v : Value} {a : List ByteArray} {w w' : World} {S : Nat → Prop} (h : AskIs B b0 b1 b2 A c objs v a w) (m : Mod S w w') (hs : ∀ k, R B w k → ¬ S k) : AskIs B b0 b1 b2 A c objs v a w' :=
  ⟨h.box1.keep m (hs _ (.has h.box1 (.inr (.inr (.inr rfl))))), h.box2.keep m (hs _ (.has h.box2 (.inr (.inr (.inl rfl))))), h.at0.keep m (hs _ (.has h.at0 (.inr (.inl rfl)))),
    own_keep h.own m (fun k _ hk => hs k (by obtain ⟨cur, fr, hh⟩ := own_row h.own hk; exact .inr ⟨cur, fr, _, hh, .inl rfl⟩)), h.row.keep2 m (fun hne ad ha => hs _ (.inl (h.low hne ad ha))), h.low, h.le, h.many⟩

set_option maxRecDepth 100000 in
set_option maxHeartbeats 2000000 in
theorem asked_calls {B b0 b1 b2 : Nat} {A : Option Addr} {c : Nat} {objs : List Ob} {v : Value} {a : List ByteArray} {w : World} (s : ByteArray) (h : AskIs B b0 b1 b2 A c objs v a w) (ha : a.length ≤ 1000000000) :
    Calls Tryd.prog 42 #[.string s, .pointer (some ⟨b1, 0, none⟩), .pointer (some ⟨b2, 0, none⟩)] w fun e w' =>
      e = .returned (.tuple #[.string (gotB (findL objs s)), .int .i64 (gotE (findL objs s))]) ∧ (∃ v', AskIs B b0 b1 b2 A c objs v' (a ++ [s]) w') ∧ Mod (Q B w) w w' := by
  have HI := Lib.hid h
  have h10 := has_ne2 h.box1 h.at0 (by decide)
  have h20 := has_ne2 h.box2 h.at0 (by decide)
  have x1 := h.box1.cell (o := 0) rfl
  have x0 := h.at0.cell (o := 0) rfl
  have x2 := h.box2.cell (o := 0) rfl
  have f0 := h.at0.frozen 0
  have l0 := h.at0.lt
  have l1 := h.box1.lt
  have hq0 : ∀ k, v.ownBlock = some k → Q B w k := fun k hk => by
    obtain ⟨cur, fr, hh⟩ := own_row h.own hk
    exact ⟨(h.own.lt k hk).1, cur, fr, _, hh, .inl rfl⟩
  have hne : ∀ (b : Nat) (cs : List Value) (T : TypeId), Has w b cs T → T ≠ 9 → v.ownBlock ≠ some b := fun b cs T hb hT hv => by
    obtain ⟨cur, fr, hh⟩ := own_row h.own hv
    unfold Has at hb
    rw [hb] at hh
    injection hh with hh
    injection hh with _ hh
    exact hT hh
  have n0 := hne _ _ _ h.at0 (by decide)
  have n1 := hne _ _ _ h.box1 (by decide)
  have n2 := hne _ _ _ h.box2 (by decide)
  have HN := Lib.hid (And.intro n0 (And.intro n1 n2))
  have HQ := Lib.hid hq0
  have fv0 := fun (w' : World) (m : Mod (fun k => v.ownBlock = some k ∨ w.heap.size ≤ k) w.drew w') => (m.cell (p := ⟨b0, 0, none⟩) l0 (by rintro (h | h) <;> first | exact n0 h | exact absurd h (Nat.not_le.2 l0))).trans x0
  have fv1 := fun (w' : World) (m : Mod (fun k => v.ownBlock = some k ∨ w.heap.size ≤ k) w.drew w') => (m.cell (p := ⟨b1, 0, none⟩) l1 (by rintro (h | h) <;> first | exact n1 h | exact absurd h (Nat.not_le.2 l1))).trans x1
  clear h hq0 hne n0 n1 n2
  go_enter Tryd.func42, Tryd.ntmps42
  go_wp2_with fail
  refine region_mS (fun k => v.ownBlock = some k ∨ w.heap.size ≤ k) (by kernel_rfl) ?_
  simp only [List.length_cons, List.length_nil, List.replicate]
  refine take0S (v := ?v1) (oi := ?o1) 0 ?hi1 (by kernel_rfl) (by kernel_rfl) (by kernel_rfl) ?hq1 ?hy1 ?_
  case hi1 => (simp only [List.getElem?_toArray, List.getElem?_cons_zero, List.getElem?_cons_succ]; rfl)
  case hq1 => exact fun _ _ _ h => h
  case hy1 => first | (refine ry_notS ?_; rfl) | (refine ry_runS (by rfl) (fun w' hw' => ?_); go_simp; try rfl)
  simp only [Act.put, List.setIfInBounds_toArray, List.set_cons_zero, List.set_cons_succ]
  refine take0S (v := ?v2) (oi := ?o2) 1 ?hi2 (by kernel_rfl) (by kernel_rfl) (by kernel_rfl) ?hq2 ?hy2 ?_
  case hi2 => (simp only [List.getElem?_toArray, List.getElem?_cons_zero, List.getElem?_cons_succ]; rfl)
  case hq2 => exact fun _ _ _ h => h
  case hy2 => first | (refine ry_notS ?_; rfl) | (refine ry_runS (by rfl) (fun w' hw' => ?_); go_simp; try rfl)
  simp only [Act.put, List.setIfInBounds_toArray, List.set_cons_zero, List.set_cons_succ]
  refine take0S (v := ?v3) (oi := ?o3) 2 ?hi3 (by kernel_rfl) (by kernel_rfl) (by kernel_rfl) ?hq3 ?hy3 ?_
  case hi3 => (simp only [List.getElem?_toArray, List.getElem?_cons_zero, List.getElem?_cons_succ]; rfl)
  case hq3 => exact fun _ _ _ h => h
  case hy3 => first | (refine ry_notS ?_; rfl) | (refine ry_runS (by rfl) (fun w' hw' => ?_); go_simp; try rfl)
  simp only [Act.put, List.setIfInBounds_toArray, List.set_cons_zero, List.set_cons_succ]
  refine take0S (v := ?v4) (oi := ?o4) 3 ?hi4 (by kernel_rfl) (by kernel_rfl) (by kernel_rfl) ?hq4 ?hy4 ?_
  case hi4 => (simp only [List.getElem?_toArray, List.getElem?_cons_zero, List.getElem?_cons_succ]; rfl)
  case hq4 => exact fun _ _ _ h => h
  case hy4 => first | (refine ry_notS ?_; rfl) | (refine ry_runS (by rfl) (fun w' hw' => ?_); go_simp; try rfl)
  simp only [Act.put, List.setIfInBounds_toArray, List.set_cons_zero, List.set_cons_succ]
  refine take0S (v := ?v5) (oi := ?o5) 4 ?hi5 (by kernel_rfl) (by kernel_rfl) (by kernel_rfl) ?hq5 ?hy5 ?_
  case hi5 => (simp only [List.getElem?_toArray, List.getElem?_cons_zero, List.getElem?_cons_succ]; rfl)
  case hq5 => exact fun _ _ _ h => h
  case hy5 => first | (refine ry_notS ?_; rfl) | (refine ry_runS (by rfl) (fun w' hw' => ?_); go_simp; try rfl)
  simp only [Act.put, List.setIfInBounds_toArray, List.set_cons_zero, List.set_cons_succ]
  refine step0S (o := ?o6) 5 (by kernel_rfl) ?hi6 ?hw6 ?_
  case hi6 => (simp only [List.getElem?_toArray, List.getElem?_cons_zero, List.getElem?_cons_succ]; rfl)
  case hw6 => rfl
  go_simp
  refine ⟨.inl (Mod.alloc (Mod.refl _ _) _), ?_⟩
  refine step0S (o := ?o7) 6 (by kernel_rfl) ?hi7 ?hw7 ?_
  case hi7 => (simp only [List.getElem?_toArray, List.getElem?_cons_zero, List.getElem?_cons_succ]; rfl)
  case hw7 => rfl
  refine app_step (.tmp 9) (.tmp 11) strs_t B v a.length (a.map .string) ((own_keep HI.out.own (Mod.drew (Mod.refl (fun _ => False) w)) (fun _ _ _ h => h)).alloc _) ⟨w.heap.size, 0, none⟩ 1 1 [.string s] rfl rfl rfl rfl (cells_new w.drew _ _) (by intro u hu; simp at hu; rcases hu with rfl; rfl) (by omega) (by unfold maxLen; omega) (by have := HI.out.le; simp; omega) ?_
  intro v5 w5 ho5 hm5
  refine ⟨.inl (hm5.mono fun _ _ h => .inl h.2), ?_⟩
  obtain ⟨A5, c5, rfl, _, _, _, _⟩ := own_cells ho5
  have hM5 := Mod.trans ((Mod.refl (fun k => v.ownBlock = some k) w).drew.alloc (.cells #[.string s] 9)) (hm5.mono (S' := fun k => v.ownBlock = some k) fun _ _ h => h.2) (fun _ _ h => h)
  have H5 := HI.out.at0.keep hM5 HN.out.1
  have q0 := H5.cell (o := 0) rfl
  have r0 := H5.frozen 0
  simp only [Act.put, List.setIfInBounds_toArray, List.set_cons_zero, List.set_cons_succ]
  refine take0S (v := ?v8) (oi := ?o8) 7 ?hi8 (by kernel_rfl) (by kernel_rfl) (by kernel_rfl) ?hq8 ?hy8 ?_
  case hi8 => (simp only [List.getElem?_toArray, List.getElem?_cons_zero, List.getElem?_cons_succ]; rfl)
  case hq8 => exact fun _ _ _ h => h
  case hy8 => first | (refine ry_notS ?_; rfl) | (refine ry_runS (by rfl) (fun w' hw' => ?_); go_simp; try rfl)
  simp only [Act.put, List.setIfInBounds_toArray, List.set_cons_zero, List.set_cons_succ]
  refine step0S (o := ?o9) 8 (by kernel_rfl) ?hi9 ?hw9 ?_
  case hi9 => (simp only [List.getElem?_toArray, List.getElem?_cons_zero, List.getElem?_cons_succ]; rfl)
  case hw9 => rfl
  go_simp
  refine ⟨.inr (by kernel_rfl), ?_⟩
  refine wpAnyM_done (by kernel_rfl) ?_
  have hB1 := HI.out.box1.keep hM5 HN.out.2.1
  have hB2 := HI.out.box2.keep hM5 HN.out.2.2
  have hl0 := H5.set 0 (.slice A5 (a.length + 1) c5)
  have hB1' := hB1.other (p := ⟨b0, 0, none⟩) (fun e => h10 e.symm) (.slice A5 (a.length + 1) c5)
  have hB2' := hB2.other (p := ⟨b0, 0, none⟩) (fun e => h20 e.symm) (.slice A5 (a.length + 1) c5)
  have HM5 := Lib.hid hM5
  have HO5 := Lib.hid ho5
  have HA5 := Lib.hid hl0
  have HB1 := Lib.hid hB1'
  have HB2 := Lib.hid hB2'
  have hown := own_store ho5 H5 (by decide) 0 (.slice A5 (a.length + 1) c5)
  have hq6 : Mod (Q B w) w (w5.setCell ⟨b0, 0, none⟩ (.slice A5 (a.length + 1) c5)) := Mod.setCell (hM5.mono (S' := Q B w) fun k _ hk => HQ.out k hk) (p := ⟨b0, 0, none⟩) (.inl ⟨HI.out.le, _, _, _, HI.out.at0, .inr rfl⟩) (.slice A5 (a.length + 1) c5)
  have hrow := HI.out.row.keep2 hq6 (fun hne ad h h2 => by have := HI.out.low hne ad h; have := h2.1; omega)
  have HR := Lib.hid hrow
  have HQ6 := Lib.hid hq6
  have HW := Lib.hid hown
  have x26 := hB2'.cell (o := 0) rfl
  obtain ⟨w6, hw6⟩ : ∃ w6, w5.setCell ⟨b0, 0, none⟩ (.slice A5 (a.length + 1) c5) = w6 := ⟨_, rfl⟩
  rw [hw6] at HA5 HB1 HB2 HR HQ6 HW x26
  rw [hw6]
  have HF := Lib.hid (find_calls A c objs s w6 HR.out HI.out.many)
  clear hB1 hB2 hl0 hB1' hB2' hown hq6 hrow hM5 ho5 hm5 H5 q0 r0 fv0 fv1 x0 x1 x2 f0 hw6 HM5 HO5
  go_wp2_with fail
  refine HF.out.mono ?_
  rintro e w7 ⟨rfl, rfl⟩
  go_wp2_with fail
  refine bodyPost_ret (v := .tuple #[.string (gotB (findL objs s)), .int .i64 (gotE (findL objs s))]) (by simp [results, Tryd.results42, go_sem]) rfl ⟨rfl, ⟨(.slice A5 (a.length + 1) c5), HB1.out, HB2.out, HA5.out, by simpa using HW.out, HR.out, HI.out.low, HI.out.le, HI.out.many⟩, HQ6.out⟩

def askG (B b0 b1 b2 : Nat) (A : Option Addr) (c : Nat) (objs : List Ob) : Gt where
  ks := 42
  caps := #[.pointer (some ⟨b1, 0, none⟩), .pointer (some ⟨b2, 0, none⟩)]
  B := B
  I := fun a w => ∃ v, AskIs B b0 b1 b2 A c objs v a w
theorem askG_ok (B b0 b1 b2 : Nat) (A : Option Addr) (c : Nat) (objs : List Ob) : GtOk (askG B b0 b1 b2 A c objs) objs where
  keep := fun a w w' S ⟨v, h⟩ m hs => ⟨v, h.keep m hs⟩
  enter := fun w s => by kernel_rfl
  call := fun a w s ⟨v, h⟩ ha => asked_calls s h ha

/-- who only answers -/
structure FromIs (B b2 : Nat) (A : Option Addr) (c : Nat) (objs : List Ob) (w : World) : Prop where
  box2 : Has w b2 [.slice A objs.length c] 25
  row : Cells w A (objs.flatMap oc)
  low : objs.flatMap oc ≠ [] → ∀ ad, A = some ad → ad.block < B
  many : objs.length ≤ 100000000
set_option maxRecDepth 100000 in
theorem from_calls {B b2 : Nat} {A : Option Addr} {c : Nat} {objs : List Ob} {w : World} (s : ByteArray) (h : FromIs B b2 A c objs w) :
    Calls Tryd.prog 47 #[.string s, .pointer (some ⟨b2, 0, none⟩)] w fun e w' =>
      e = .returned (.tuple #[.string (gotB (findL objs s)), .int .i64 (gotE (findL objs s))]) ∧ w' = w := by
  have x2 := h.box2.cell (o := 0) rfl
  have HF := Lib.hid (find_calls A c objs s w h.row h.many)
  clear h
  go_enter Tryd.func47, Tryd.ntmps47
  go_wp2_with fail
  refine HF.out.mono ?_
  rintro e w7 ⟨rfl, rfl⟩
  go_wp2_with fail
  refine bodyPost_ret (v := .tuple #[.string (gotB (findL objs s)), .int .i64 (gotE (findL objs s))]) (by simp [results, Tryd.results47, go_sem]) rfl ⟨rfl, rfl⟩
def fromG (B b2 : Nat) (A : Option Addr) (c : Nat) (objs : List Ob) : Gt where
  ks := 47
  caps := #[.pointer (some ⟨b2, 0, none⟩)]
  B := B
  I := fun _ w => FromIs B b2 A c objs w
theorem fromG_ok (B b2 : Nat) (A : Option Addr) (c : Nat) (objs : List Ob) : GtOk (fromG B b2 A c objs) objs where
  keep := fun a w w' S h m hs => ⟨h.box2.keep m (hs _ (.has h.box2 (.inr (.inr (.inl rfl))))), h.row.keep2 m (fun hne ad ha => hs _ (.inl (h.low hne ad ha))), h.low, h.many⟩
  enter := fun w s => by kernel_rfl
  call := fun a w s h _ => (from_calls s h).mono fun e w' ⟨he, hw⟩ => ⟨he, by subst hw; exact h, by subst hw; exact Mod.refl _ _⟩

end Blob
end Go.Proofs.YtpoljpjcmigobaaDoor
/- A drawn region whose last operation waits on all others, by way of others too: its store turns what the others read, and yet they may be run first. -/
namespace Go.Proofs.YtpoljpjcmigobaaDoor
set_option linter.unusedVariables false
set_option linter.unusedSimpArgs false
open Go
namespace K

section
variable {P : Program} {ops : Array Oper} {Q : Exit → Act → World → Prop} {md : Region.Mode} {R : World → World → Prop}

/-- does operation j wait on i, by way of others too? -/
def waits (md : Region.Mode) (ops : Array Oper) : Nat → Nat → Nat → Bool
  | 0, _, _ => false
  | f + 1, j, i => match ops[j]? with | some o => o.after.any fun e => Region.binds md e && (e.on == i || waits md ops f e.on i) | none => false
/-- an operation that reads no memory -/
def wfree (o : Oper) : Bool := match o.op with | .extract .. => true | .assign .. => true | .move .. => true | _ => false
/-- Is the operation before or behind each other one that may read memory? -/
def pivotT (md : Region.Mode) (ops : Array Oper) (j : Nat) : Bool :=
  (List.range ops.size).all fun i => i == j || waits md ops ops.size j i || waits md ops ops.size i j || (match ops[i]? with | some o => wfree o | none => true)
def RelW (R : World → World → Prop) (o : Oper) (w w' : World) : Prop := wfree o = true ∨ R w w'
/-- What is listed stands behind what it waits on. -/
def Closed (md : Region.Mode) (ops : Array Oper) (listed : Array Bool) : Prop :=
  ∀ j, listed.getD j false = true → ∀ o, ops[j]? = some o → ∀ e ∈ o.after, Region.binds md e = true → listed.getD e.on false = true
def closedB (md : Region.Mode) (ops : Array Oper) (listed : Array Bool) : Bool :=
  (List.range ops.size).all fun j => !listed.getD j false || (match ops[j]? with | some o => o.after.all fun e => !Region.binds md e || listed.getD e.on false | none => true)
theorem closedB_spec {listed : Array Bool} (h : closedB md ops listed = true) : Closed md ops listed := by
  intro j hj o ho e he hb
  have h1 := List.all_eq_true.1 h j (List.mem_range.2 (Array.getElem?_eq_some_iff.1 ho).1)
  rw [ho, hj] at h1
  simp only [Bool.not_true, Bool.false_or] at h1
  have h2 := Array.all_eq_true_iff_forall_mem.1 h1 e he
  rw [hb] at h2
  simpa using h2
theorem waits_no {listed : Array Bool} (hc : Closed md ops listed) {i : Nat} (hi : listed.getD i false = false) : ∀ (f j : Nat), (∀ o, ops[j]? = some o → ∀ e ∈ o.after, Region.binds md e = true → listed.getD e.on false = true) → waits md ops f j i = false
  | 0, _, _ => rfl
  | f + 1, j, h => by
    unfold waits
    cases ho : ops[j]? with
    | none => rfl
    | some o =>
      dsimp only
      cases hh : (o.after.any fun e => Region.binds md e && (e.on == i || waits md ops f e.on i)) with
      | false => rfl
      | true =>
        obtain ⟨e, he, hb⟩ := Array.any_eq_true'.1 hh
        simp only [Bool.and_eq_true, Bool.or_eq_true, beq_iff_eq] at hb
        have h1 := h o ho e he hb.1
        rcases hb.2 with hb2 | hb2
        · rw [hb2, hi] at h1; cases h1
        · rw [waits_no hc hi f e.on (fun o' ho' e' he' hb' => hc e.on h1 o' ho' e' he' hb')] at hb2; cases hb2
theorem not_listed {listed : Array Bool} {i : Nat} (h : listed.getD i true = false) : listed.getD i false = false := by
  rcases Nat.lt_or_ge i listed.size with h' | h'
  · simpa [h'] using h
  · simp [Array.getElem?_eq_none h'] at h
theorem not_pivotT {listed : Array Bool} (hc : Closed md ops listed) {i j : Nat} {o : Oper} (ho : ops[i]? = some o) (hw : wfree o = false) (hi : i ∈ Region.ready md ops listed) (hj : j ∈ Region.ready md ops listed) (hne : j ≠ i) : pivotT md ops j = false := by
  cases h : pivotT md ops j with
  | false => rfl
  | true =>
    obtain ⟨hi0, oi, hoi, hai⟩ := mem_ready.1 hi
    obtain ⟨hj0, oj, hoj, haj⟩ := mem_ready.1 hj
    have h1 := List.all_eq_true.1 h i (List.mem_range.2 (Array.getElem?_eq_some_iff.1 hoi).1)
    rw [ho] at h1
    simp only [Bool.or_eq_true, beq_iff_eq, hw, Bool.false_eq_true, or_false] at h1
    rcases h1 with (h1 | h1) | h1
    · exact absurd h1.symm hne
    · rw [waits_no hc (not_listed hi0) _ j (fun o ho e he hb => by obtain rfl := Option.some.inj (hoj.symm.trans ho); exact haj e he hb)] at h1; cases h1
    · rw [waits_no hc (not_listed hj0) _ i (fun o ho e he hb => by obtain rfl := Option.some.inj (hoi.symm.trans ho); exact hai e he hb)] at h1; cases h1
theorem Closed.set {listed : Array Bool} (hc : Closed md ops listed) {j : Nat} (hj : j ∈ Region.ready md ops listed) : Closed md ops (listed.setIfInBounds j true) := by
  obtain ⟨hj0, oj, hoj, haj⟩ := mem_ready.1 hj
  intro k hk o ho e he hb
  refine getD_set_true ?_
  by_cases hjk : j = k
  · subst hjk
    obtain rfl := Option.some.inj (hoj.symm.trans ho)
    exact haj e he hb
  · rw [getD_set_ne false hjk] at hk
    exact hc k hk o ho e he hb

def wpAnyT (R : World → World → Prop) (P : Program) (md : Region.Mode) (ops : Array Oper) (Q : Exit → Act → World → Prop) : Nat → Array Bool → Act → World → Prop
  | 0, listed, a, w => Region.ready md ops listed = [] ∧ Q .normal a w
  | fuel + 1, listed, a, w =>
    (Region.ready md ops listed = [] → Q .normal a w) ∧
    ∀ i ∈ Region.ready md ops listed, wpOp P ops Q i (fun a' w' => (R w w' ∨ pivotT md ops i = true) ∧ wpAnyT R P md ops Q fuel (listed.setIfInBounds i true) a' w') a w

theorem wpAny_of_T : ∀ (fuel : Nat) (listed : Array Bool) (a : Act) (w : World), wpAnyT R P md ops Q fuel listed a w → wpAny P md ops Q fuel listed a w
  | 0, _, _, _, h => h
  | fuel + 1, _, _, _, h => ⟨h.1, fun i hi => wpOp_mono (fun a' w' h' => wpAny_of_T fuel _ a' w' h'.2) (h.2 i hi)⟩

theorem wpAnyT_first (tr : ∀ x y z, R x y → R y z → R x z) (refl : ∀ x, R x x) {i : Nat} {oi : Oper} {v : Value} (hi : ops[i]? = some oi) (hsel : ∀ (j : Nat) (o : Oper) cs b, ops[j]? = some o → o.op ≠ .select cs b)
    (hQ : ∀ c a w, Q (.panic c) (a.put oi.dst v) w → Q (.panic c) a w) :
    ∀ (fuel : Nat) (listed : Array Bool) (a : Act) (w : World), Closed md ops listed →
      (∀ j oj, ops[j]? = some oj → j ≠ i → listed.getD j true = false → (∀ e ∈ oj.after, Region.binds md e = true → e.on ≠ i) → oi.apart ops oj = true) →
      i ∈ Region.ready md ops listed → RYields (RelW R oi) P ops oi v a w →
      wpAnyT R P md ops Q fuel (listed.setIfInBounds i true) (a.put oi.dst v) w → wpAnyT R P md ops Q (fuel + 1) listed a w := by
  intro fuel
  induction fuel with
  | zero =>
    intro listed a w hc _ hr hy H
    refine ⟨fun h => (by rw [h] at hr; cases hr), fun j hj => ?_⟩
    by_cases hji : j = i
    · subst hji; exact hy.wpOp (.inr (refl _)) hi ⟨.inl (refl _), H⟩
    · have := ready_mono hj hji
      rw [H.1] at this
      cases this
  | succ fuel ih =>
    intro listed a w hc hfree hr hy H
    refine ⟨fun h => (by rw [h] at hr; cases hr), fun j hj => ?_⟩
    by_cases hji : j = i
    · subst hji; exact hy.wpOp (.inr (refl _)) hi ⟨.inl (refl _), H⟩
    · have h1 := H.2 j (ready_mono hj hji)
      obtain ⟨hjun, oj, hoj, hall⟩ := mem_ready.1 hj
      have hnot : ∀ e ∈ oj.after, Region.binds md e = true → e.on ≠ i := fun e he hb heq => by
        have h1 := hall e he hb
        have h0 := not_listed (mem_ready.1 hr).1
        rw [heq, h0] at h1
        cases h1
      have h2 := wpOp_put' hoj (hfree j oj hoj hji hjun hnot) (fun cs b => hsel i oi cs b hi) (fun cs b => hsel j oj cs b hoj) hQ h1
      have hfree' : ∀ k ok, ops[k]? = some ok → k ≠ i → (listed.setIfInBounds j true).getD k true = false →
          (∀ e ∈ ok.after, Region.binds md e = true → e.on ≠ i) → oi.apart ops ok = true := fun k ok hk hki hun hno => by
        refine hfree k ok hk hki ?_ hno
        by_cases hjk : j = k
        · subst hjk; exact hjun
        · rw [getD_set_ne true hjk] at hun; exact hun
      refine wpOp_mono (fun a' w' h3 => ?_) h2
      obtain ⟨hs, hR, hM⟩ := h3
      have hR2 : RelW R oi w w' := by
        cases hwf : wfree oi with
        | true => exact .inl hwf
        | false =>
          rcases hR with h | h
          · exact .inr h
          · rw [not_pivotT hc hi hwf hr hj hji] at h; cases h
      refine ⟨hR, ih (listed.setIfInBounds j true) a' w' (hc.set hj) hfree' (ready_mono hr (Ne.symm hji)) (hy.of_same (fun x y z h k => h.elim .inl (fun h => k.elim .inl (fun k => .inr (tr x y z h k)))) hs hR2) ?_⟩
      rw [Array.setIfInBounds_comm _ _ hji]
      exact hM
theorem wpAnyT_step (i : Nat) {fuel : Nat} {listed : Array Bool} {a : Act} {w : World} (hr : Region.ready md ops listed = [i])
    (h : wpOp P ops Q i (fun a' w' => (R w w' ∨ pivotT md ops i = true) ∧ wpAnyT R P md ops Q fuel (listed.setIfInBounds i true) a' w') a w) : wpAnyT R P md ops Q (fuel + 1) listed a w :=
  ⟨(fun h0 => by rw [hr] at h0; cases h0), fun j hj => by rw [hr] at hj; obtain rfl := List.mem_singleton.1 hj; exact h⟩
theorem wpAnyT_done {fuel : Nat} {listed : Array Bool} {a : Act} {w : World} (hr : Region.ready md ops listed = []) (h : Q .normal a w) : wpAnyT R P md ops Q fuel listed a w := by
  cases fuel with
  | zero => exact ⟨hr, h⟩
  | succ _ => exact ⟨fun _ => h, by rw [hr]; simp⟩
end

theorem region_mT (S : Nat → Prop) {P : Program} {Q : Exit → Act → World → Prop} {id : Nat} {l : List Oper} {a : Act} {w : World} (hm : P.follows .mixedOrders = true)
    (h : wpAnyT (Mod S) P .any l.toArray Q l.length (List.replicate l.length false).toArray a w.drew) : (Code.region id l.toArray true).wp P Q a w := by
  refine wp_region_any hm ?_
  have := wpAny_of_T _ _ _ _ h
  simpa using this
theorem take0T {S : Nat → Prop} {P : Program} {ops : Array Oper} {Q : Exit → Act → World → Prop} (i : Nat) {oi : Oper} {v : Value} {fuel : Nat} {listed : Array Bool} {a : Act} {w : World} (hi : ops[i]? = some oi)
    (hs : Region.noSelect ops = true) (hf : Region.free .any ops listed i = true) (hr : ((Region.ready .any ops listed).contains i && closedB .any ops listed) = true)
    (hQ : ∀ c a w, Q (.panic c) (a.put oi.dst v) w → Q (.panic c) a w) (hy : RYields (RelW (Mod S) oi) P ops oi v a w)
    (h : wpAnyT (Mod S) P .any ops Q fuel (listed.setIfInBounds i true) (a.put oi.dst v) w) : wpAnyT (Mod S) P .any ops Q (fuel + 1) listed a w := by
  rw [Bool.and_eq_true] at hr
  exact wpAnyT_first (R := Mod S) (fun _ _ _ h k => Mod.trans h k (fun _ _ h => h)) (fun _ => Mod.refl S _) hi (Region.noSelect_spec hs) hQ fuel listed a w (closedB_spec hr.2) (Region.free_spec hi hf) (by simpa using hr.1) hy h
theorem ry_notT {S : Nat → Prop} {P : Program} {ops : Array Oper} {o : Oper} {a : Act} {w : World} (hw : Region.wanted o (yielded ops a.tmps) = false) : RYields (RelW (Mod S) o) P ops o undef a w := .inr ⟨hw, rfl⟩
theorem ry_runF {S : Nat → Prop} {P : Program} {ops : Array Oper} {o : Oper} {v : Value} {a : Act} {w : World} (_ : wfree o = true) (hw : Region.wanted o (yielded ops a.tmps) = true) (h : ∀ w', (execOp a.eval o).run P w' = .ok (.value v) w') : RYields (RelW (Mod S) o) P ops o v a w := .inl ⟨hw, fun w' _ => h w'⟩
theorem ry_runT {S : Nat → Prop} {P : Program} {ops : Array Oper} {o : Oper} {v : Value} {a : Act} {w : World} (hf : wfree o = false) (hw : Region.wanted o (yielded ops a.tmps) = true) (h : ∀ w', Mod S w w' → (execOp a.eval o).run P w' = .ok (.value v) w') : RYields (RelW (Mod S) o) P ops o v a w :=
  .inl ⟨hw, fun w' h' => h'.elim (fun e => by rw [hf] at e; cases e) (h w')⟩
theorem step0T {S : Nat → Prop} {P : Program} {ops : Array Oper} {Q : Exit → Act → World → Prop} (i : Nat) {o : Oper} {fuel : Nat} {listed : Array Bool} {a : Act} {w : World} (hr : Region.ready .any ops listed = [i]) (hi : ops[i]? = some o)
    (hw : Region.wanted o (yielded ops a.tmps) = true)
    (h : o.wp P a w (fun a' w' => (Mod S w w' ∨ pivotT .any ops i = true) ∧ wpAnyT (Mod S) P .any ops Q fuel (listed.setIfInBounds i true) a' w') Q) : wpAnyT (Mod S) P .any ops Q (fuel + 1) listed a w :=
  wpAnyT_step i hr (by unfold wpOp; simp only [hi, hw, if_true]; exact .inl h)
theorem stepNoT {S : Nat → Prop} {P : Program} {ops : Array Oper} {Q : Exit → Act → World → Prop} (i : Nat) {o : Oper} {fuel : Nat} {listed : Array Bool} {a : Act} {w : World} (hr : Region.ready .any ops listed = [i]) (hi : ops[i]? = some o)
    (hw : Region.wanted o (yielded ops a.tmps) = false)
    (h : wpAnyT (Mod S) P .any ops Q fuel (listed.setIfInBounds i true) (a.put o.dst undef) w) : wpAnyT (Mod S) P .any ops Q (fuel + 1) listed a w :=
  wpAnyT_step i hr (by unfold wpOp; simp only [hi, hw, Bool.false_eq_true, if_false]; exact ⟨.inl (Mod.refl _ _), h⟩)
theorem two0T {S : Nat → Prop} {P : Program} {ops : Array Oper} {Q : Exit → Act → World → Prop} {oi oj : Oper} (i j : Nat) {fuel : Nat} {listed : Array Bool} {a : Act} {w : World} (hr : Region.ready .any ops listed = [i, j]) (hi : ops[i]? = some oi) (hj : ops[j]? = some oj)
    (hwi : Region.wanted oi (yielded ops a.tmps) = true) (hwj : Region.wanted oj (yielded ops a.tmps) = true)
    (h : oi.wp P a w (fun a' w' => (Mod S w w' ∨ pivotT .any ops i = true) ∧ wpAnyT (Mod S) P .any ops Q fuel (listed.setIfInBounds i true) a' w') Q)
    (h' : oj.wp P a w (fun a' w' => (Mod S w w' ∨ pivotT .any ops j = true) ∧ wpAnyT (Mod S) P .any ops Q fuel (listed.setIfInBounds j true) a' w') Q) : wpAnyT (Mod S) P .any ops Q (fuel + 1) listed a w :=
  ⟨(fun h0 => by rw [hr] at h0; cases h0), fun k hk => by
    rw [hr] at hk
    rcases List.mem_cons.1 hk with rfl | hk
    · unfold wpOp; simp only [hi, hwi, if_true]; exact .inl h
    · obtain rfl := List.mem_singleton.1 hk; unfold wpOp; simp only [hj, hwj, if_true]; exact .inl h'⟩
/-- append of a text's bytes, as a step of a drawn region -/
theorem appStr_step {P : Program} {w : World} {o : Oper} {a : Act} {KK : Act → World → Prop} {Q : Exit → Act → World → Prop} (s x : Operand) {t u e : Nat} (T : SliceT P t e 1 1)
    (hz0 : ∀ i z, P.info? e = some i → i.zero = some z → z = .int .u8 0) (hu : P.underlying u = some .string)
    (base : Nat) (v : Value) (n : Nat) (xs : List Value) (hown : w.ownsRow base e 1 v n xs) (str : ByteArray)
    (ho : o.op = .call { callee := .builtin .append, args := #[s, x], argTypes := #[t, u] })
    (hs : a.eval s = v) (hx : a.eval x = .string str)
    (hm : n + str.size ≤ maxLen) (hb : n + str.size ≤ 140737488355328) (hbase : base ≤ w.heap.size)
    (h : ∀ v' w', w'.ownsRow base e 1 v' (n + str.size) (xs ++ bv str.data.toList) → Mod (fun k => base ≤ k ∧ v.ownBlock = some k) w w' → KK (a.put o.dst v') w') : o.wp P a w KK Q := by
  obtain ⟨ht, hsz, i, z, hi, hz, hsize, hby, hzs⟩ := T
  obtain ⟨v', w', hr, h2, h3, h4⟩ := Lib.run_append_own_string (P := P) (w := w) base t u o.type e i ht hu hi (by rw [hz, hz0 i z hi hz]) hsize hby v n xs hown str hm hb hbase
  unfold Oper.wp execOp
  simp only [ho, resolve, invoke, builtin, Sem.run_bind, Sem.run_pure, Result.andThen_ok, List.map_toArray, List.map_cons, List.map_nil, hs, hx, hr]
  exact h v' w' h2 (Mod.grown (Mod.refl _ _) h3 fun k hk _ => ⟨(hown.lt k hk).1, hk⟩)
/-- append of a slice's elements, nil included, as a step of a drawn region -/
theorem appG_step {P : Program} {w : World} {o : Oper} {a : Act} {KK : Act → World → Prop} {Q : Exit → Act → World → Prop} (s x : Operand) {t e size bytes : Nat} (T : SliceT P t e size bytes)
    (base : Nat) (v : Value) (n : Nat) (xs : List Value) (hown : w.ownsRow base e size v n xs) (A : Option Addr) (m c : Nat) (news : List Value)
    (ho : o.op = .call { callee := .builtin .append, args := #[s, x], argTypes := #[t, t] })
    (hs : a.eval s = v) (hx : a.eval x = .slice A m c) (hl : news.length = m * size) (hA : Cells w A news) (h1 : ∀ u ∈ news, u.oneCell' = true)
    (hb : (n + m) * bytes ≤ 140737488355328) (hm : n + m ≤ maxLen) (hbase : base ≤ w.heap.size)
    (h : ∀ v' w', w'.ownsRow base e size v' (n + m) (xs ++ news) → Mod (fun k => v.ownBlock = some k) w w' → RowOf w v v' → KK (a.put o.dst v') w') : o.wp P a w KK Q := by
  obtain ⟨ht, hsz, i, z, hi, hz, hsize, hby, hzs⟩ := T
  cases A with
  | some ad =>
    have hnews : ∀ j u, news[j]? = some u → w.cell? (ad.add j) = some u := by
      rcases hA with hA | ⟨b, o, hA, hc⟩
      · intro j u hj; rw [hA] at hj; simp at hj
      · obtain rfl := Option.some.inj hA
        intro j u hj; rw [Addr.add_lit]; exact hc j u hj
    obtain ⟨v', w', hr, h2, h3, h4⟩ := run_append_own2 (P := P) w base t o.type e i z size bytes ht hi hz hsize hby hzs hsz v n xs hown ad m c news hl hnews h1 hm hb hbase
    unfold Oper.wp execOp
    simp only [ho, resolve, invoke, builtin, Sem.run_bind, Sem.run_pure, Result.andThen_ok, List.map_toArray, List.map_cons, List.map_nil, hs, hx, hr]
    exact h v' w' h2 (Mod.grown (Mod.refl _ _) h3 fun k hk _ => hk) h4
  | none =>
    have hn : news = [] := by
      rcases hA with hA | ⟨b, o, hA, _⟩
      · exact hA
      · cases hA
    subst hn
    have hm0 : m = 0 := by
      rcases Nat.eq_zero_or_pos m with h | h
      · exact h
      · have := Nat.mul_pos h hsz; simp at hl; omega
    subst hm0
    have hrun : (Builtin.append_ #[t, t] o.type #[v, .slice none 0 c]).run P w = .ok v w := by
      rcases hown.2 with ⟨rfl, rfl⟩ | ⟨g, cap, cur, rfl, hbg, hg, hnc, hcm, hcs, htake⟩
      · simp [Builtin.append_, run_underlying ht, sizeOf, typeInfo, hi, Builtin.lenOf, Builtin.firstCells]
      · simp [Builtin.append_, run_underlying ht, sizeOf, typeInfo, hi, Builtin.lenOf, Builtin.firstCells, hnc, storeCells]
    unfold Oper.wp execOp
    simp only [ho, resolve, invoke, builtin, Sem.run_bind, Sem.run_pure, Result.andThen_ok, List.map_toArray, List.map_cons, List.map_nil, hs, hx, hrun]
    exact h v w (by simpa using hown) (Mod.refl _ _) (rowOf_same rfl)
/-! the same steps, short: what they ask is looked up -/
theorem take1 {P : Program} {ops : Array Oper} {Q : Exit → Act → World → Prop} (i : Nat) {oi : Oper} {v : Value} {fuel : Nat} {listed : Array Bool} {a a' : Act} {w : World}
    (h : wpAnyM Mod0 P .any ops Q fuel (listed.setIfInBounds i true) a' w)
    (hi : ops[i]? = some oi := by simp only [List.getElem?_toArray, List.getElem?_cons_zero, List.getElem?_cons_succ]; rfl)
    (hs : Region.noSelect ops = true := by kernel_rfl) (hf : Region.free .any ops listed i = true := by kernel_rfl) (hr : (Region.ready .any ops listed).contains i = true := by kernel_rfl)
    (hy : RYields Mod0 P ops oi v a w := by first | (apply ry_not; rfl) | (apply ry_run; rfl; intro w' hw'; go_simp; try rfl))
    (ha : a.put oi.dst v = a' := by simp only [Act.put, List.setIfInBounds_toArray, List.set_cons_zero, List.set_cons_succ]; rfl)
    (hQ : ∀ c a w, Q (.panic c) (a.put oi.dst v) w → Q (.panic c) a w := by exact fun _ _ _ h => h) : wpAnyM Mod0 P .any ops Q (fuel + 1) listed a w :=
  take0 i hi hs hf hr hQ hy (ha ▸ h)
theorem step1 {P : Program} {ops : Array Oper} {Q : Exit → Act → World → Prop} (i : Nat) {o : Oper} {fuel : Nat} {listed : Array Bool} {a : Act} {w : World}
    (h : o.wp P a w (fun a' w' => (Mod0 w w' ∨ pivot .any ops i = true) ∧ wpAnyM Mod0 P .any ops Q fuel (listed.setIfInBounds i true) a' w') Q)
    (hi : ops[i]? = some o := by simp only [List.getElem?_toArray, List.getElem?_cons_zero, List.getElem?_cons_succ]; rfl)
    (hr : Region.ready .any ops listed = [i] := by kernel_rfl) (hw : Region.wanted o (yielded ops a.tmps) = true := by rfl) : wpAnyM Mod0 P .any ops Q (fuel + 1) listed a w :=
  step0 i hr hi hw h
theorem take1T {S : Nat → Prop} {P : Program} {ops : Array Oper} {Q : Exit → Act → World → Prop} (i : Nat) {oi : Oper} {v : Value} {fuel : Nat} {listed : Array Bool} {a a' : Act} {w : World}
    (h : wpAnyT (Mod S) P .any ops Q fuel (listed.setIfInBounds i true) a' w)
    (hi : ops[i]? = some oi := by simp only [List.getElem?_toArray, List.getElem?_cons_zero, List.getElem?_cons_succ]; rfl)
    (hs : Region.noSelect ops = true := by kernel_rfl) (hf : Region.free .any ops listed i = true := by kernel_rfl) (hr : ((Region.ready .any ops listed).contains i && closedB .any ops listed) = true := by kernel_rfl)
    (hy : RYields (RelW (Mod S) oi) P ops oi v a w := by first | (apply ry_notT; rfl) | (apply ry_runF; rfl; rfl; intro w'; go_simp; try rfl) | (apply ry_runT; rfl; rfl; intro w' hw'; go_simp; try rfl))
    (ha : a.put oi.dst v = a' := by simp only [Act.put, List.setIfInBounds_toArray, List.set_cons_zero, List.set_cons_succ]; rfl)
    (hQ : ∀ c a w, Q (.panic c) (a.put oi.dst v) w → Q (.panic c) a w := by exact fun _ _ _ h => h) : wpAnyT (Mod S) P .any ops Q (fuel + 1) listed a w :=
  take0T i hi hs hf hr hQ hy (ha ▸ h)
theorem step1T {S : Nat → Prop} {P : Program} {ops : Array Oper} {Q : Exit → Act → World → Prop} (i : Nat) {o : Oper} {fuel : Nat} {listed : Array Bool} {a : Act} {w : World}
    (h : o.wp P a w (fun a' w' => (Mod S w w' ∨ pivotT .any ops i = true) ∧ wpAnyT (Mod S) P .any ops Q fuel (listed.setIfInBounds i true) a' w') Q)
    (hi : ops[i]? = some o := by simp only [List.getElem?_toArray, List.getElem?_cons_zero, List.getElem?_cons_succ]; rfl)
    (hr : Region.ready .any ops listed = [i] := by kernel_rfl) (hw : Region.wanted o (yielded ops a.tmps) = true := by rfl) : wpAnyT (Mod S) P .any ops Q (fuel + 1) listed a w :=
  step0T i hr hi hw h
end K
end Go.Proofs.YtpoljpjcmigobaaDoor
/- Opening arguments that are slices of objects, or parts. -/
namespace Go.Proofs.YtpoljpjcmigobaaDoor
set_option linter.unusedVariables false
set_option linter.unusedSimpArgs false
open Go.RowKit Go.ChangeShapes Go.WideShapes Go.Deep
namespace K
open Wire
open Go.Proofs.YtpoljpjcmigobaaDoor.Obj

set_option maxRecDepth 100000 in
/-- a slice of objects that came in, from its cells -/
theorem open_objs {H : Type} {enc : TypeId × Value → H} {W : World} {base : Nat} {held : Bool} {fuel : Nat} {v : Value} {x : DataW H × List MemPlace}
    (h : DataW.trod enc Tryd.prog W base (fun _ => true) held fuel 25 [v] = some x) :
    ∃ (A : Option Addr) (kids : List Blob.Ob) (cap : Nat), v = .slice A kids.length cap ∧ Cells W A (kids.flatMap Blob.oc) ∧ (kids.map fun p => p.id.size + p.bytes.size).sum + 2 * kids.length ≤ Rows.uptoBulk x.1 := by
  rcases open_slice_pairs Tryd.underlying25 Tryd.underlying59 (by kernel_rfl) rfl rfl (by kernel_rfl) (by kernel_rfl) h with ⟨hcs, rfl⟩ | ⟨a, len, cap, m, n, V0, V1, D0, D1, P0, P1, hcs, _, hl, hm, hmm, rfl, hx⟩
  · obtain rfl : v = .slice none 0 0 := by simpa using hcs
    exact ⟨none, [], 0, rfl, .inl rfl, by simp⟩
  · obtain rfl : v = .slice (some a) len cap := by simpa using hcs
    rw [if_pos rfl] at hmm
    subst hmm
    have each : ∀ i, i < m → ∃ q : ByteArray × ByteArray, V0 i = .string q.1 ∧ D0 i = .lit (.string q.1.data.toList) ∧ V1 i = .string q.2 ∧ D1 i = .lit (.string q.2.data.toList) := fun i hi => by
      obtain ⟨_, _, h2, h3⟩ := hx i hi
      obtain ⟨s, g1, g2, _⟩ := DataW.trod_string Tryd.underlying9 h2
      obtain ⟨z, g3, g4, _⟩ := DataW.trod_string Tryd.underlying9 h3
      simp only [Prod.mk.injEq] at g2 g4
      exact ⟨(s, z), by simpa using g1, g2.1, by simpa using g3, g4.1⟩
    obtain ⟨q, hq⟩ := choose_lt each
    obtain ⟨kids, hk⟩ : ∃ kids : List Blob.Ob, kids = (List.range len).map fun i => ⟨(q i).1, (q i).2⟩ := ⟨_, rfl⟩
    have hkl : kids.length = len := by rw [hk]; simp
    have hkg : ∀ i (h : i < kids.length), kids[i] = ⟨(q i).1, (q i).2⟩ := fun i h => by subst hk; simp
    refine ⟨some a, kids, m, by rw [hkl], ?_, ?_⟩
    · by_cases h0 : len = 0
      · exact .inl (by rw [hk, h0]; rfl)
      · have hsp : a.spot = none := by
          have h1 := (hx 0 (by omega)).1
          cases hs : a.spot with
          | none => rfl
          | some s =>
            unfold World.cell? at h1
            rw [show (a.add (0 * 2)) = a by simp [Addr.add], hs] at h1
            split at h1 <;> simp at h1
        obtain ⟨b, o, s⟩ := a
        obtain rfl : s = none := hsp
        refine .inr ⟨b, o, rfl, fun j u hj => ?_⟩
        have hjl : j < kids.length * 2 := by
          have := (List.getElem?_eq_some_iff.1 hj).1
          rw [flat_len Blob.oc_len] at this; exact this
        obtain ⟨i, r, hr, rfl⟩ : ∃ i r, r < 2 ∧ j = i * 2 + r := ⟨j / 2, j % 2, Nat.mod_lt _ (by omega), by omega⟩
        have hi : i < kids.length := by omega
        rw [flat_get Blob.oc_len kids i r hi hr, hkg i hi] at hj
        obtain ⟨c0, c1, _, _⟩ := hx i (by omega)
        rw [Addr.add_lit] at c0 c1
        obtain ⟨q0, _, q1, _⟩ := hq i (by omega)
        match r, hr with
        | 0, _ => simp [Blob.oc] at hj; subst hj; rw [Nat.add_zero, c0, q0]
        | 1, _ => simp [Blob.oc] at hj; subst hj; rw [c1, q1]
    · have hb : ∀ n, n ≤ len → (((List.range n).map fun i => (⟨(q i).1, (q i).2⟩ : Blob.Ob)).map fun p => p.id.size + p.bytes.size).sum + 2 * n ≤ Rows.uptoBulkAll ((List.range n).map fun i => DataW.agg [D0 i, D1 i]) := by
        intro n
        induction n with
        | zero => intro _; simp
        | succ n ih =>
          intro hn
          have ih := ih (by omega)
          obtain ⟨_, d0, _, d1⟩ := hq n (by omega)
          rw [List.range_succ, List.map_append, List.map_append, List.map_append, List.sum_append, bulk_app]
          simp only [List.map_cons, List.map_nil, List.sum_cons, List.sum_nil, Rows.uptoBulkAll, Rows.uptoBulk, d0, d1]
          have e : (q n).1.data.toList.length = (q n).1.size := by simp
          have e2 : (q n).2.data.toList.length = (q n).2.size := by simp
          omega
      have h1 := hb len (Nat.le_refl _)
      rw [← hk] at h1
      simp only [Rows.uptoBulk]
      omega

theorem sum_mem {l : List Blob.Ob} {o : Blob.Ob} (h : o ∈ l) : o.id.size + o.bytes.size ≤ (l.map fun p => p.id.size + p.bytes.size).sum := by
  induction l with
  | nil => cases h
  | cons a l ih =>
    rw [List.map_cons, List.sum_cons]
    rcases List.mem_cons.1 h with rfl | h
    · omega
    · have := ih h; omega
/-- what a law asks of its objects -/
structure ObjsIn (W : World) (A : Option Addr) (objs : List Blob.Ob) : Prop where
  row : Cells W A (objs.flatMap Blob.oc)
  many : objs.length ≤ 1048576
  small : ∀ o ∈ objs, o.id.size ≤ 1048576 ∧ o.bytes.size ≤ 1048576
  low : objs.flatMap Blob.oc ≠ [] → ∀ ad, A = some ad → ad.block < W.heap.size
set_option maxRecDepth 100000 in
theorem open_objs_arg {H : Type} {enc : TypeId × Value → H} {W : World} {base : Nat} {held : Bool} {r : Reach} {b0 : Nat} {v : Value} {d : DataW H} {pl : List MemPlace} {l : List (DataW H)}
    (hk : Rows.uptoSmall H l = true) (hd : d ∈ l) (hval : Value.okWide Tryd.prog W r b0 25 v)
    (h : DataW.Trod enc Tryd.prog W base (fun _ => true) held 25 v d pl) :
    ∃ (A : Option Addr) (kids : List Blob.Ob) (cap : Nat), v = .slice A kids.length cap ∧ ObjsIn W A kids := by
  have hb := bulk_at hk hd
  obtain ⟨A0, len0, cap0, rfl⟩ := okWide_slice Tryd.underlying25 hval
  obtain ⟨fuel, hf⟩ := h
  obtain ⟨A, kids, cap, g1, g2, g3⟩ := open_objs hf
  have g4 := Nat.le_trans g3 hb
  refine ⟨A, kids, cap, g1, g2, by omega, fun o ho => by have := sum_mem ho; omega, fun hne ad ha => ?_⟩
  rcases g2 with g2 | ⟨b, o, rfl, hc⟩
  · exact absurd g2 hne
  · injection ha with ha
    subst ha
    obtain ⟨u, hu⟩ : ∃ u, (kids.flatMap Blob.oc)[0]? = some u := by
      cases hx : kids.flatMap Blob.oc with
      | nil => exact absurd hx hne
      | cons u l => exact ⟨u, rfl⟩
    exact World.block_lt_of_cell? W _ (hc 0 u hu)
end K
end Go.Proofs.YtpoljpjcmigobaaDoor
