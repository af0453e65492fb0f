/- Joined texts: Kq, BlobA, BlobK. -/
import Derived.Test.YthgcjfpaekpeeaaDoorJ1
import Derived.Test.YthgcjfpaekpeeaaDoorJ19
import Derived.Test.YthgcjfpaekpeeaaDoorJ15
import Derived.Maps.Own
import Derived.Maps.OwnOps
import Derived.Maps.Views
/- A row beside a store into a block of another type. -/
namespace Go.Proofs.YthgcjfpaekpeeaaDoor
set_option linter.unusedVariables false
set_option linter.unusedSimpArgs false
open Go.RowKit K
namespace K
theorem own_store {w : World} {base e size n g T : Nat} {v : Value} {xs cs : List Value} (h : w.ownsRow base e size v n xs) (hg : Has w g cs T) (hT : T ≠ e) (o : Nat) (u : Value) : (w.setCell ⟨g, o, none⟩ u).ownsRow base e size v n xs :=
  own_keep h ((Mod.refl (fun k => k = g) w).set1 rfl o u) (fun k _ hk hs => has_ne hg (own_row h hk) hT hs)
theorem two0S {S : Nat → Prop} {P : Program} {ops : Array Oper} {Q : Exit → Act → World → Prop} {oi oj : Oper} (i j : Nat) {fuel : Nat} {listed : Array Bool} {a : Act} {w : World} (hr : Region.ready .any ops listed = [i, j]) (hi : ops[i]? = some oi) (hj : ops[j]? = some oj)
    (hwi : Region.wanted oi (yielded ops a.tmps) = true) (hwj : Region.wanted oj (yielded ops a.tmps) = true)
    (h : oi.wp P a w (fun a' w' => (Mod S w w' ∨ pivot .any ops i = true) ∧ wpAnyM (Mod S) P .any ops Q fuel (listed.setIfInBounds i true) a' w') Q)
    (h' : oj.wp P a w (fun a' w' => (Mod S w w' ∨ pivot .any ops j = true) ∧ wpAnyM (Mod S) P .any ops Q fuel (listed.setIfInBounds j true) a' w') Q) : wpAnyM (Mod S) P .any ops Q (fuel + 1) listed a w :=
  wpAnyM_two i j hr (by unfold wpOp; simp only [hi, hwi, if_true]; exact .inl h) (by unfold wpOp; simp only [hj, hwj, if_true]; exact .inl h')
theorem mod_realloc {S : Nat → Prop} {w : World} {o o' : Obj} (h : S w.heap.size) : Mod S (w.alloc o) (w.alloc o') := by
  refine ⟨rfl, rfl, rfl, by simp, fun k hk hs => ?_⟩
  have : k < w.heap.size := by
    rcases Nat.lt_or_ge k w.heap.size with h1 | h1
    · exact h1
    · have h2 : k < w.heap.size + 1 := by simpa using hk
      obtain rfl : k = w.heap.size := by omega
      exact absurd h hs
  rw [Below.heap_alloc _ _ _ this, Below.heap_alloc _ _ _ this]
theorem Cells.keep2 {S : Nat → Prop} {w w' : World} {A : Option Addr} {xs : List Value} (h : Cells w A xs) (m : Mod S w w') (hs : xs ≠ [] → ∀ a, A = some a → ¬ S a.block) : Cells w' A xs := by
  by_cases hx : xs = []
  · exact .inl hx
  · exact h.keep m (hs hx)
end K
end Go.Proofs.YthgcjfpaekpeeaaDoor
/- The walks of the reference's Find, of what is a root; who answers with objects. -/
namespace Go.Proofs.YthgcjfpaekpeeaaDoor
set_option linter.unusedVariables false
set_option linter.unusedSimpArgs false
open Go.RowKit K Wire
namespace Blob
open Go.Proofs.YthgcjfpaekpeeaaDoor.Obj

def rightP (p : Part) : Bool := decide (p.id.size = 32) && decide (0 ≤ p.size) && decide (p.size ≤ 262144)
set_option maxRecDepth 100000 in
theorem right_calls (p : Part) (w : World) : Calls Tryd.prog 30 #[.agg #[.string p.id, .int .i64 p.size]] w fun e w' => e = .returned (.bool (rightP p)) ∧ Mod (fun _ => False) w w' := by
  unfold rightP
  by_cases h1 : p.id.size = 32
  · have i1 : (p.id.size : Int) = 32 := by omega
    have q1 : decide (p.id.size = 32) = true := decide_eq_true h1
    by_cases h2 : 0 ≤ p.size
    · have q2 : decide (0 ≤ p.size) = true := decide_eq_true h2
      rw [q1, q2]
      clear q1 q2
      have b1 : ((p.id.size : Int) == 32) = true := by simpa using i1
      go_enter Tryd.func30, Tryd.ntmps30
      go_wp2_with fail
      go_ret
      refine ⟨?_, by (repeat (first | with_reducible exact Mod.refl _ _ | with_reducible apply Mod.drew | with_reducible apply Mod.drewN | with_reducible apply Mod.alloc | refine Mod.set1 ?_ (by first | exact rfl | simp) _ _))⟩
      simp
    · have q2 : decide (0 ≤ p.size) = false := decide_eq_false h2
      rw [q1, q2]
      clear q1 q2
      have b1 : ((p.id.size : Int) == 32) = true := by simpa using i1
      go_enter Tryd.func30, Tryd.ntmps30
      go_wp2_with fail
      go_ret
      refine ⟨?_, by (repeat (first | with_reducible exact Mod.refl _ _ | with_reducible apply Mod.drew | with_reducible apply Mod.drewN | with_reducible apply Mod.alloc | refine Mod.set1 ?_ (by first | exact rfl | simp) _ _))⟩
      simp
  · have q1 : decide (p.id.size = 32) = false := decide_eq_false h1
    have b1 : ((p.id.size : Int) == 32) = false := by simp; omega
    have i1 : ¬ (p.id.size : Int) = 32 := by omega
    rw [q1]
    clear q1
    go_enter Tryd.func30, Tryd.ntmps30
    go_wp2_with fail
    go_ret
    refine ⟨?_, by (repeat (first | with_reducible exact Mod.refl _ _ | with_reducible apply Mod.drew | with_reducible apply Mod.drewN | with_reducible apply Mod.alloc | refine Mod.set1 ?_ (by first | exact rfl | simp) _ _))⟩
    simp
set_option maxRecDepth 100000 in
theorem rRight_calls (p : Part) (w : World) : Calls Tryd.prog 34 #[.agg #[.string p.id, .int .i64 p.size]] w fun e w' => e = .returned (.bool (rightP p)) ∧ Mod (fun _ => False) w w' := by
  unfold rightP
  by_cases h1 : p.id.size = 32
  · have i1 : (p.id.size : Int) = 32 := by omega
    have q1 : decide (p.id.size = 32) = true := decide_eq_true h1
    by_cases h2 : 0 ≤ p.size
    · have q2 : decide (0 ≤ p.size) = true := decide_eq_true h2
      rw [q1, q2]
      clear q1 q2
      have b1 : ((p.id.size : Int) == 32) = true := by simpa using i1
      go_enter Tryd.func34, Tryd.ntmps34
      go_wp2_with fail
      go_ret
      refine ⟨?_, by (repeat (first | with_reducible exact Mod.refl _ _ | with_reducible apply Mod.drew | with_reducible apply Mod.drewN | with_reducible apply Mod.alloc | refine Mod.set1 ?_ (by first | exact rfl | simp) _ _))⟩
      simp
    · have q2 : decide (0 ≤ p.size) = false := decide_eq_false h2
      rw [q1, q2]
      clear q1 q2
      have b1 : ((p.id.size : Int) == 32) = true := by simpa using i1
      go_enter Tryd.func34, Tryd.ntmps34
      go_wp2_with fail
      go_ret
      refine ⟨?_, by (repeat (first | with_reducible exact Mod.refl _ _ | with_reducible apply Mod.drew | with_reducible apply Mod.drewN | with_reducible apply Mod.alloc | refine Mod.set1 ?_ (by first | exact rfl | simp) _ _))⟩
      simp
  · have q1 : decide (p.id.size = 32) = false := decide_eq_false h1
    have b1 : ((p.id.size : Int) == 32) = false := by simp; omega
    have i1 : ¬ (p.id.size : Int) = 32 := by omega
    rw [q1]
    clear q1
    go_enter Tryd.func34, Tryd.ntmps34
    go_wp2_with fail
    go_ret
    refine ⟨?_, by (repeat (first | with_reducible exact Mod.refl _ _ | with_reducible apply Mod.drew | with_reducible apply Mod.drewN | with_reducible apply Mod.alloc | refine Mod.set1 ?_ (by first | exact rfl | simp) _ _))⟩
    simp

theorem findL_hit (id : ByteArray) : ∀ (l : List Ob) (k : Nat) (h : k < l.length), (∀ j, (hj : j < l.length) → j < k → l[j].id ≠ id) → l[k].id = id → findL l id = some l[k].bytes
  | [], k, h, _, _ => by simp at h
  | o :: l, 0, _, _, he => by simp only [List.getElem_cons_zero] at he ⊢; simp [findL, he]
  | o :: l, k + 1, h, hn, he => by
    have h0 := hn 0 (by simp) (by omega)
    simp only [List.getElem_cons_zero] at h0
    simp only [List.getElem_cons_succ] at he ⊢
    unfold findL
    rw [if_neg h0]
    exact findL_hit id l k (by simpa using h) (fun j hj hk => by have := hn (j + 1) (by simpa using hj) (by omega); simpa using this) he
theorem findL_miss (id : ByteArray) : ∀ (l : List Ob), (∀ j, (hj : j < l.length) → l[j].id ≠ id) → findL l id = none
  | [], _ => rfl
  | o :: l, h => by
    have h0 := h 0 (by simp)
    simp only [List.getElem_cons_zero] at h0
    unfold findL
    rw [if_neg h0]
    exact findL_miss id l (fun j hj => by have := h (j + 1) (by simpa using hj); simpa using this)
def gotB (o : Option ByteArray) : ByteArray := o.getD ⟨#[]⟩
def gotE (o : Option ByteArray) : Int := match o with | none => 3 | some _ => 0

set_option maxRecDepth 100000 in
set_option maxHeartbeats 1000000 in
theorem find_calls (A : Option Addr) (c : Nat) (objs : List Ob) (id : ByteArray) (w : World) (hA : Cells w A (objs.flatMap oc)) (hn : objs.length ≤ 100000000) :
    Calls Tryd.prog 33 #[.slice A objs.length c, .string id] w fun e w' => e = .returned (.tuple #[.string (gotB (findL objs id)), .int .i64 (gotE (findL objs id))]) ∧ w' = w := by
  have HA := Lib.hid hA
  clear hA
  obtain ⟨FL, hFL⟩ : ∃ FL, findL objs id = FL := ⟨_, rfl⟩
  rw [hFL]
  have HF := Lib.hid hFL
  clear hFL
  go_enter Tryd.func33, Tryd.ntmps33
  go_wp2_with fail
  go_loopw [6] (fun i wr => ∃ k : Nat, i = .int .i64 k ∧ k ≤ objs.length ∧ Hid (∀ j, (h : j < objs.length) → j < k → objs[j].id ≠ id) ∧ wr = w) (fun i _ => objs.length - (intOf i).toNat)
  case atStart => exact ⟨0, by go_num, Nat.zero_le _, Lib.hid (fun j _ hj => absurd hj (Nat.not_lt_zero _)), rfl⟩
  case round =>
    obtain ⟨k, rfl, hk, HN, rfl⟩ := hrel
    by_cases hlt : k < objs.length
    · have i1 : (k : Int) < (objs.length : Int) := by omega
      have i0 : (0 : Int) ≤ (k : Int) := by omega
      rcases HA.out with h | ⟨ba, o, rfl, hcell⟩
      · have := flat_len oc_len objs; rw [h] at this; simp at this; omega
      have y0 := hcell _ _ (flat_get oc_len objs k 0 hlt (by omega))
      have y1 := hcell _ _ (flat_get oc_len objs k 1 hlt (by omega))
      rw [Nat.add_zero] at y0
      rw [← Nat.add_assoc] at y1
      by_cases he : objs[k].id = id
      · have hf := findL_hit id objs k hlt HN.out he
        rw [HF.out] at hf
        obtain ⟨ob, hob⟩ : ∃ ob, objs[k] = ob := ⟨_, rfl⟩
        rw [hob] at y0 y1 he hf
        subst hf
        subst he
        clear hob
        clear hcell HN HF
        go_wp2_with fail
        refine bodyPost_ret (v := .tuple #[.string ob.bytes, .int .i64 0]) (by simp [results, Tryd.results33, go_sem]) rfl ⟨rfl, rfl⟩
      · have hn2 : ∀ j, (h : j < objs.length) → j < k + 1 → objs[j].id ≠ id := fun j h hj => by
          by_cases e : j = k
          · subst e; exact he
          · exact HN.out j h (by omega)
        have HN2 := Lib.hid hn2
        have heq : (objs[k].id.toList == id.toList) = false := (Lib.bytes_beq_false_iff _ _).2 he
        obtain ⟨ob, hob⟩ : ∃ ob, objs[k] = ob := ⟨_, rfl⟩
        rw [hob] at y0 y1 heq
        clear hcell hn2 he HN hob
        go_wp2_with fail
        go_roundw
        case rel => exact ⟨k + 1, by go_num, by omega, HN2, trivial⟩
        case measure => simp [intOf]; omega
    · have i1 : ¬ (k : Int) < (objs.length : Int) := by omega
      have hf := findL_miss id objs (fun j hj => HN.out j hj (by omega))
      rw [HF.out] at hf
      subst hf
      clear HN HF
      go_wp2_with fail
      refine bodyPost_ret (v := .tuple #[.string ⟨#[]⟩, .int .i64 3]) (by simp [results, Tryd.results33, go_sem]) rfl ⟨rfl, rfl⟩

/-! who answers -/
/-- blocks that a get turns -/
def Q (B : Nat) (w : World) (k : Nat) : Prop := B ≤ k ∧ ∃ cur fr T, w.heap[k]? = some (.cells cur T fr) ∧ (T = 9 ∨ T = 32)
/-- blocks that it needs -/
def R (B : Nat) (w : World) (k : Nat) : Prop := k < B ∨ ∃ cur fr T, w.heap[k]? = some (.cells cur T fr) ∧ (T = 9 ∨ T = 32 ∨ T = 26 ∨ T = 37)
theorem Q.r {B : Nat} {w : World} {k : Nat} (h : Q B w k) : R B w k := by
  obtain ⟨_, cur, fr, T, h1, h2⟩ := h
  exact .inr ⟨cur, fr, T, h1, h2.elim .inl (fun h => .inr (.inl h))⟩
theorem R.not {B : Nat} {w : World} {k : Nat} {T : TypeId} (h : ∃ cur fr, w.heap[k]? = some (.cells cur T fr)) (hb : B ≤ k) (h0 : T ≠ 9) (h1 : T ≠ 32) (h2 : T ≠ 26) (h4 : T ≠ 37) : ¬ R B w k := by
  rintro (hr | ⟨cur, fr, T', hc, ht⟩)
  · omega
  · obtain ⟨cur', fr', h⟩ := h
    rw [h] at hc
    obtain rfl : T = T' := by injection hc with hc; injection hc
    rcases ht with rfl | rfl | rfl | rfl <;> contradiction
theorem R.has {B : Nat} {w : World} {k : Nat} {cs : List Value} {T : TypeId} (h : Has w k cs T) (ht : T = 9 ∨ T = 32 ∨ T = 26 ∨ T = 37) : R B w k := .inr ⟨_, _, _, h, ht⟩
structure Gt where
  ks : Nat
  caps : Array Value
  B : Nat
  I : List ByteArray → World → Prop
def Gt.f (G : Gt) : Value := .func (.func G.ks) #[] G.caps
structure GtOk (G : Gt) (objs : List Ob) : Prop where
  keep : ∀ a w w' S, G.I a w → Mod S w w' → (∀ k, R G.B w k → ¬ S k) → G.I a w'
  enter : ∀ (w : World) s, (callFunc G.ks (#[.string s] ++ G.caps)).run Tryd.prog w = .ok (.enter G.ks (#[.string s] ++ G.caps)) w
  call : ∀ a w s, G.I a w → a.length ≤ 1000000000 → Calls Tryd.prog G.ks (#[.string s] ++ G.caps) w fun e w' => e = .returned (.tuple #[.string (gotB (findL objs s)), .int .i64 (gotE (findL objs s))]) ∧ G.I (a ++ [s]) w' ∧ Mod (Q G.B w) w w'
/-- turns of such blocks, one behind the other -/
theorem Q.trans {B : Nat} {S : Nat → Prop} {w w1 w2 : World} (h : Mod (fun k => Q B w k ∨ S k) w w1) (k : Mod (fun k => Q B w1 k ∨ S k) w1 w2) : Mod (fun k => Q B w k ∨ S k) w w2 :=
  Mod.trans h k (fun i hi hs => by
    rcases hs with hs | hs
    · by_cases hq : Q B w i ∨ S i
      · exact hq
      · obtain ⟨hb, cur, fr, T, h1, h2⟩ := hs
        rw [h.block i hi hq] at h1
        exact absurd (.inl ⟨hb, cur, fr, T, h1, h2⟩) hq
    · exact .inr hs)

set_option maxRecDepth 100000 in
theorem strs_t : SliceT Tryd.prog 32 9 1 16 := ⟨Tryd.underlying32, by decide, _, .string ByteArray.empty, rfl, rfl, rfl, rfl, rfl⟩
/-- who notes what is asked -/
structure AskIs (B b0 b1 b2 : Nat) (A : Option Addr) (c : Nat) (objs : List Ob) (v : Value) (a : List ByteArray) (w : World) : Prop where
  box1 : Has w b1 [.pointer (some ⟨b0, 0, none⟩)] 37
  box2 : Has w b2 [.slice A objs.length c] 26
  at0 : Has w b0 [v] 32
  own : w.ownsRow B 9 1 v a.length (a.map .string)
  row : Cells w A (objs.flatMap oc)
  low : objs.flatMap oc ≠ [] → ∀ ad, A = some ad → ad.block < B
  le : B ≤ b0
  many : objs.length ≤ 100000000
theorem AskIs.keep {B b0 b1 b2 : Nat} {A : Option Addr} {c : Nat} {objs : List Ob} {v : Value} {a : List ByteArray} {w w' : World} {S : Nat → Prop} (h : AskIs B b0 b1 b2 A c objs v a w) (m : Mod S w w') (hs : ∀ k, R B w k → ¬ S k) : AskIs B b0 b1 b2 A c objs v a w' :=
  ⟨h.box1.keep m (hs _ (.has h.box1 (.inr (.inr (.inr rfl))))), h.box2.keep m (hs _ (.has h.box2 (.inr (.inr (.inl rfl))))), h.at0.keep m (hs _ (.has h.at0 (.inr (.inl rfl)))),
    own_keep h.own m (fun k _ hk => hs k (by obtain ⟨cur, fr, hh⟩ := own_row h.own hk; exact .inr ⟨cur, fr, _, hh, .inl rfl⟩)), h.row.keep2 m (fun hne ad ha => hs _ (.inl (h.low hne ad ha))), h.low, h.le, h.many⟩

set_option maxRecDepth 100000 in
set_option maxHeartbeats 2000000 in
theorem asked_calls {B b0 b1 b2 : Nat} {A : Option Addr} {c : Nat} {objs : List Ob} {v : Value} {a : List ByteArray} {w : World} (s : ByteArray) (h : AskIs B b0 b1 b2 A c objs v a w) (ha : a.length ≤ 1000000000) :
    Calls Tryd.prog 32 #[.string s, .pointer (some ⟨b1, 0, none⟩), .pointer (some ⟨b2, 0, none⟩)] w fun e w' =>
      e = .returned (.tuple #[.string (gotB (findL objs s)), .int .i64 (gotE (findL objs s))]) ∧ (∃ v', AskIs B b0 b1 b2 A c objs v' (a ++ [s]) w') ∧ Mod (Q B w) w w' := by
  have HI := Lib.hid h
  have h10 := has_ne2 h.box1 h.at0 (by decide)
  have h20 := has_ne2 h.box2 h.at0 (by decide)
  have x1 := h.box1.cell (o := 0) rfl
  have x0 := h.at0.cell (o := 0) rfl
  have x2 := h.box2.cell (o := 0) rfl
  have f0 := h.at0.frozen 0
  have l0 := h.at0.lt
  have l1 := h.box1.lt
  have hq0 : ∀ k, v.ownBlock = some k → Q B w k := fun k hk => by
    obtain ⟨cur, fr, hh⟩ := own_row h.own hk
    exact ⟨(h.own.lt k hk).1, cur, fr, _, hh, .inl rfl⟩
  have hne : ∀ (b : Nat) (cs : List Value) (T : TypeId), Has w b cs T → T ≠ 9 → v.ownBlock ≠ some b := fun b cs T hb hT hv => by
    obtain ⟨cur, fr, hh⟩ := own_row h.own hv
    unfold Has at hb
    rw [hb] at hh
    injection hh with hh
    injection hh with _ hh
    exact hT hh
  have n0 := hne _ _ _ h.at0 (by decide)
  have n1 := hne _ _ _ h.box1 (by decide)
  have n2 := hne _ _ _ h.box2 (by decide)
  have HN := Lib.hid (And.intro n0 (And.intro n1 n2))
  have HQ := Lib.hid hq0
  have fv0 := fun (w' : World) (m : Mod (fun k => v.ownBlock = some k ∨ w.heap.size ≤ k) w.drew w') => (m.cell (p := ⟨b0, 0, none⟩) l0 (by rintro (h | h) <;> first | exact n0 h | exact absurd h (Nat.not_le.2 l0))).trans x0
  have fv1 := fun (w' : World) (m : Mod (fun k => v.ownBlock = some k ∨ w.heap.size ≤ k) w.drew w') => (m.cell (p := ⟨b1, 0, none⟩) l1 (by rintro (h | h) <;> first | exact n1 h | exact absurd h (Nat.not_le.2 l1))).trans x1
  clear h hq0 hne n0 n1 n2
  go_enter Tryd.func32, Tryd.ntmps32
  go_wp2_with fail
  refine region_mS (fun k => v.ownBlock = some k ∨ w.heap.size ≤ k) (by kernel_rfl) ?_
  simp only [List.length_cons, List.length_nil, List.replicate]
  refine take0S (v := ?v1) (oi := ?o1) 0 ?hi1 (by kernel_rfl) (by kernel_rfl) (by kernel_rfl) ?hq1 ?hy1 ?_
  case hi1 => (simp only [List.getElem?_toArray, List.getElem?_cons_zero, List.getElem?_cons_succ]; rfl)
  case hq1 => exact fun _ _ _ h => h
  case hy1 => first | (refine ry_notS ?_; rfl) | (refine ry_runS (by rfl) (fun w' hw' => ?_); go_simp; try rfl)
  simp only [Act.put, List.setIfInBounds_toArray, List.set_cons_zero, List.set_cons_succ]
  refine take0S (v := ?v2) (oi := ?o2) 1 ?hi2 (by kernel_rfl) (by kernel_rfl) (by kernel_rfl) ?hq2 ?hy2 ?_
  case hi2 => (simp only [List.getElem?_toArray, List.getElem?_cons_zero, List.getElem?_cons_succ]; rfl)
  case hq2 => exact fun _ _ _ h => h
  case hy2 => first | (refine ry_notS ?_; rfl) | (refine ry_runS (by rfl) (fun w' hw' => ?_); go_simp; try rfl)
  simp only [Act.put, List.setIfInBounds_toArray, List.set_cons_zero, List.set_cons_succ]
  refine take0S (v := ?v3) (oi := ?o3) 2 ?hi3 (by kernel_rfl) (by kernel_rfl) (by kernel_rfl) ?hq3 ?hy3 ?_
  case hi3 => (simp only [List.getElem?_toArray, List.getElem?_cons_zero, List.getElem?_cons_succ]; rfl)
  case hq3 => exact fun _ _ _ h => h
  case hy3 => first | (refine ry_notS ?_; rfl) | (refine ry_runS (by rfl) (fun w' hw' => ?_); go_simp; try rfl)
  simp only [Act.put, List.setIfInBounds_toArray, List.set_cons_zero, List.set_cons_succ]
  refine take0S (v := ?v4) (oi := ?o4) 3 ?hi4 (by kernel_rfl) (by kernel_rfl) (by kernel_rfl) ?hq4 ?hy4 ?_
  case hi4 => (simp only [List.getElem?_toArray, List.getElem?_cons_zero, List.getElem?_cons_succ]; rfl)
  case hq4 => exact fun _ _ _ h => h
  case hy4 => first | (refine ry_notS ?_; rfl) | (refine ry_runS (by rfl) (fun w' hw' => ?_); go_simp; try rfl)
  simp only [Act.put, List.setIfInBounds_toArray, List.set_cons_zero, List.set_cons_succ]
  refine take0S (v := ?v5) (oi := ?o5) 4 ?hi5 (by kernel_rfl) (by kernel_rfl) (by kernel_rfl) ?hq5 ?hy5 ?_
  case hi5 => (simp only [List.getElem?_toArray, List.getElem?_cons_zero, List.getElem?_cons_succ]; rfl)
  case hq5 => exact fun _ _ _ h => h
  case hy5 => first | (refine ry_notS ?_; rfl) | (refine ry_runS (by rfl) (fun w' hw' => ?_); go_simp; try rfl)
  simp only [Act.put, List.setIfInBounds_toArray, List.set_cons_zero, List.set_cons_succ]
  refine step0S (o := ?o6) 5 (by kernel_rfl) ?hi6 ?hw6 ?_
  case hi6 => (simp only [List.getElem?_toArray, List.getElem?_cons_zero, List.getElem?_cons_succ]; rfl)
  case hw6 => rfl
  go_simp
  refine ⟨.inl (Mod.alloc (Mod.refl _ _) _), ?_⟩
  refine step0S (o := ?o7) 6 (by kernel_rfl) ?hi7 ?hw7 ?_
  case hi7 => (simp only [List.getElem?_toArray, List.getElem?_cons_zero, List.getElem?_cons_succ]; rfl)
  case hw7 => rfl
  refine app_step (.tmp 9) (.tmp 11) strs_t B v a.length (a.map .string) ((own_keep HI.out.own (Mod.drew (Mod.refl (fun _ => False) w)) (fun _ _ _ h => h)).alloc _) ⟨w.heap.size, 0, none⟩ 1 1 [.string s] rfl rfl rfl rfl (cells_new w.drew _ _) (by intro u hu; simp at hu; rcases hu with rfl; rfl) (by omega) (by unfold maxLen; omega) (by have := HI.out.le; simp; omega) ?_
  intro v5 w5 ho5 hm5
  refine ⟨.inl (hm5.mono fun _ _ h => .inl h.2), ?_⟩
  obtain ⟨A5, c5, rfl, _, _, _, _⟩ := own_cells ho5
  have hM5 := Mod.trans ((Mod.refl (fun k => v.ownBlock = some k) w).drew.alloc (.cells #[.string s] 9)) (hm5.mono (S' := fun k => v.ownBlock = some k) fun _ _ h => h.2) (fun _ _ h => h)
  have H5 := HI.out.at0.keep hM5 HN.out.1
  have q0 := H5.cell (o := 0) rfl
  have r0 := H5.frozen 0
  simp only [Act.put, List.setIfInBounds_toArray, List.set_cons_zero, List.set_cons_succ]
  refine take0S (v := ?v8) (oi := ?o8) 7 ?hi8 (by kernel_rfl) (by kernel_rfl) (by kernel_rfl) ?hq8 ?hy8 ?_
  case hi8 => (simp only [List.getElem?_toArray, List.getElem?_cons_zero, List.getElem?_cons_succ]; rfl)
  case hq8 => exact fun _ _ _ h => h
  case hy8 => first | (refine ry_notS ?_; rfl) | (refine ry_runS (by rfl) (fun w' hw' => ?_); go_simp; try rfl)
  simp only [Act.put, List.setIfInBounds_toArray, List.set_cons_zero, List.set_cons_succ]
  refine step0S (o := ?o9) 8 (by kernel_rfl) ?hi9 ?hw9 ?_
  case hi9 => (simp only [List.getElem?_toArray, List.getElem?_cons_zero, List.getElem?_cons_succ]; rfl)
  case hw9 => rfl
  go_simp
  refine ⟨.inr (by kernel_rfl), ?_⟩
  refine wpAnyM_done (by kernel_rfl) ?_
  have hB1 := HI.out.box1.keep hM5 HN.out.2.1
  have hB2 := HI.out.box2.keep hM5 HN.out.2.2
  have hl0 := H5.set 0 (.slice A5 (a.length + 1) c5)
  have hB1' := hB1.other (p := ⟨b0, 0, none⟩) (fun e => h10 e.symm) (.slice A5 (a.length + 1) c5)
  have hB2' := hB2.other (p := ⟨b0, 0, none⟩) (fun e => h20 e.symm) (.slice A5 (a.length + 1) c5)
  have HM5 := Lib.hid hM5
  have HO5 := Lib.hid ho5
  have HA5 := Lib.hid hl0
  have HB1 := Lib.hid hB1'
  have HB2 := Lib.hid hB2'
  have hown := own_store ho5 H5 (by decide) 0 (.slice A5 (a.length + 1) c5)
  have hq6 : Mod (Q B w) w (w5.setCell ⟨b0, 0, none⟩ (.slice A5 (a.length + 1) c5)) := Mod.setCell (hM5.mono (S' := Q B w) fun k _ hk => HQ.out k hk) (p := ⟨b0, 0, none⟩) (.inl ⟨HI.out.le, _, _, _, HI.out.at0, .inr rfl⟩) (.slice A5 (a.length + 1) c5)
  have hrow := HI.out.row.keep2 hq6 (fun hne ad h h2 => by have := HI.out.low hne ad h; have := h2.1; omega)
  have HR := Lib.hid hrow
  have HQ6 := Lib.hid hq6
  have HW := Lib.hid hown
  have x26 := hB2'.cell (o := 0) rfl
  obtain ⟨w6, hw6⟩ : ∃ w6, w5.setCell ⟨b0, 0, none⟩ (.slice A5 (a.length + 1) c5) = w6 := ⟨_, rfl⟩
  rw [hw6] at HA5 HB1 HB2 HR HQ6 HW x26
  rw [hw6]
  have HF := Lib.hid (find_calls A c objs s w6 HR.out HI.out.many)
  clear hB1 hB2 hl0 hB1' hB2' hown hq6 hrow hM5 ho5 hm5 H5 q0 r0 fv0 fv1 x0 x1 x2 f0 hw6 HM5 HO5
  go_wp2_with fail
  refine HF.out.mono ?_
  rintro e w7 ⟨rfl, rfl⟩
  go_wp2_with fail
  refine bodyPost_ret (v := .tuple #[.string (gotB (findL objs s)), .int .i64 (gotE (findL objs s))]) (by simp [results, Tryd.results32, go_sem]) rfl ⟨rfl, ⟨(.slice A5 (a.length + 1) c5), HB1.out, HB2.out, HA5.out, by simpa using HW.out, HR.out, HI.out.low, HI.out.le, HI.out.many⟩, HQ6.out⟩

def askG (B b0 b1 b2 : Nat) (A : Option Addr) (c : Nat) (objs : List Ob) : Gt where
  ks := 32
  caps := #[.pointer (some ⟨b1, 0, none⟩), .pointer (some ⟨b2, 0, none⟩)]
  B := B
  I := fun a w => ∃ v, AskIs B b0 b1 b2 A c objs v a w
theorem askG_ok (B b0 b1 b2 : Nat) (A : Option Addr) (c : Nat) (objs : List Ob) : GtOk (askG B b0 b1 b2 A c objs) objs where
  keep := fun a w w' S ⟨v, h⟩ m hs => ⟨v, h.keep m hs⟩
  enter := fun w s => by kernel_rfl
  call := fun a w s ⟨v, h⟩ ha => asked_calls s h ha

/-- who only answers -/
structure FromIs (B b2 : Nat) (A : Option Addr) (c : Nat) (objs : List Ob) (w : World) : Prop where
  box2 : Has w b2 [.slice A objs.length c] 26
  row : Cells w A (objs.flatMap oc)
  low : objs.flatMap oc ≠ [] → ∀ ad, A = some ad → ad.block < B
  many : objs.length ≤ 100000000
set_option maxRecDepth 100000 in
theorem from_calls {B b2 : Nat} {A : Option Addr} {c : Nat} {objs : List Ob} {w : World} (s : ByteArray) (h : FromIs B b2 A c objs w) :
    Calls Tryd.prog 36 #[.string s, .pointer (some ⟨b2, 0, none⟩)] w fun e w' =>
      e = .returned (.tuple #[.string (gotB (findL objs s)), .int .i64 (gotE (findL objs s))]) ∧ w' = w := by
  have x2 := h.box2.cell (o := 0) rfl
  have HF := Lib.hid (find_calls A c objs s w h.row h.many)
  clear h
  go_enter Tryd.func36, Tryd.ntmps36
  go_wp2_with fail
  refine HF.out.mono ?_
  rintro e w7 ⟨rfl, rfl⟩
  go_wp2_with fail
  refine bodyPost_ret (v := .tuple #[.string (gotB (findL objs s)), .int .i64 (gotE (findL objs s))]) (by simp [results, Tryd.results36, go_sem]) rfl ⟨rfl, rfl⟩
def fromG (B b2 : Nat) (A : Option Addr) (c : Nat) (objs : List Ob) : Gt where
  ks := 36
  caps := #[.pointer (some ⟨b2, 0, none⟩)]
  B := B
  I := fun _ w => FromIs B b2 A c objs w
theorem fromG_ok (B b2 : Nat) (A : Option Addr) (c : Nat) (objs : List Ob) : GtOk (fromG B b2 A c objs) objs where
  keep := fun a w w' S h m hs => ⟨h.box2.keep m (hs _ (.has h.box2 (.inr (.inr (.inl rfl))))), h.row.keep2 m (fun hne ad ha => hs _ (.inl (h.low hne ad ha))), h.low, h.many⟩
  enter := fun w s => by kernel_rfl
  call := fun a w s h _ => (from_calls s h).mono fun e w' ⟨he, hw⟩ => ⟨he, by subst hw; exact h, by subst hw; exact Mod.refl _ _⟩

end Blob
end Go.Proofs.YthgcjfpaekpeeaaDoor
/- The walk of the maker's keep: objects, each id once, by a map that counts. -/
namespace Go.Proofs.YthgcjfpaekpeeaaDoor
set_option linter.unusedVariables false
set_option linter.unusedSimpArgs false
open Go.RowKit K Wire Go.Maps
namespace K
theorem upd_step {H : Type} {P : Program} {w : World} {o : Oper} {a : Act} {KK : Act → World → Prop} {Q : Exit → Act → World → Prop} (m x v : Operand) (t : TypeId) (hop : o.op = Op.mapUpdate t m x v)
    (k e : TypeId) (K : Keyed P k) (ht : P.underlying t = some (.map k e)) (R : Value → Option (DataW H × List MemPlace)) (b n : Nat) (D : DataW H)
    (hm : a.eval m = .map (some b)) (hown : w.ownsMap P k R b n D) (hn : n < maxLen) (key val : Value) (kl : Lit) (hx : a.eval x = key) (hv : a.eval v = val) (hkey : keyOf P k key = some kl)
    (d : DataW H) (ps : List MemPlace) (hval : R val = some (d, ps))
    (hK : ∀ w', w'.ownsMap P k R b (n + 1) (D.put kl d) → w.grownBy w' (some b) → KK (a.put o.dst undef) w') : o.wp P a w KK Q := by
  obtain ⟨w', hrun, r1, r2⟩ := hown.update K ht hn hkey hval
  unfold Oper.wp
  simp [execOp, hop, hm, hx, hv, hrun, Result.andThen]
  exact hK w' r1 r2
theorem ownsMap_keep {H : Type} {P : Program} {k : TypeId} {R : Value → Option (DataW H × List MemPlace)} {w w' : World} {b n : Nat} {D : DataW H} {S : Nat → Prop} (h : w.ownsMap P k R b n D) (m : Mod S w w') (hs : ¬ S b) : w'.ownsMap P k R b n D := by
  have hlt := h.lt
  obtain ⟨es, clock, hb, F, hn, hD⟩ := h
  exact ⟨es, clock, (m.block b hlt hs).trans hb, F, hn, hD⟩
end K
namespace Blob
open Go.Proofs.YthgcjfpaekpeeaaDoor.Obj

set_option maxRecDepth 100000 in
theorem zeroE (w : World) : (zeroValue 3).run Tryd.prog w = .ok (.int .i64 0) w := by kernel_rfl
set_option maxRecDepth 100000 in
theorem objs_t : SliceT Tryd.prog 26 60 2 32 := ⟨Tryd.underlying26, by decide, _, .agg #[.string ByteArray.empty, .string ByteArray.empty], rfl, rfl, rfl, rfl, rfl⟩
def kl (id : ByteArray) : Lit := .string id.data.toList
/-- the map counts -/
def Met (D : DataW Unit) (l : List Ob) (n : Nat) : Prop := IsMap D ∧ ∀ id : ByteArray, ∃ c : Int, D.atKey (kl id) (.lit (.int .i64 0)) = .lit (.int .i64 c) ∧ 0 ≤ c ∧ c ≤ n ∧ (c = 0 ↔ ¬ ∃ o ∈ l, o.id = id)
theorem Met.nil : Met (.map []) [] 0 := ⟨⟨_, rfl⟩, fun id => ⟨0, rfl, by omega, by simp, by simp⟩⟩
theorem Met.put {D : DataW Unit} {l : List Ob} {n : Nat} (h : Met D l n) (o : Ob) {c : Int} (hc : D.atKey (kl o.id) (.lit (.int .i64 0)) = .lit (.int .i64 c)) (h0 : 0 ≤ c) (hn : c ≤ n) : Met (D.put (kl o.id) (.lit (.int .i64 (c + 1)))) (keepL l o) (n + 1) := by
  refine ⟨h.1.put _ _, fun id => ?_⟩
  by_cases he : o.id = id
  · subst he
    refine ⟨c + 1, atKey_put_same (k := kl o.id) h.1 (show WideAt.IsKeyLit (.string _) from trivial) _ _, by omega, by omega, ?_⟩
    rw [keepL_mem]
    simp; omega
  · obtain ⟨c', h1, h2, h3, h4⟩ := h.2 id
    refine ⟨c', ?_, h2, by omega, ?_⟩
    · rw [atKey_put_other (fun e => he (by
        have : id.data.toList = o.id.data.toList := by injection e
        have h5 : id.data = o.id.data := Array.toList_inj.1 this
        cases id; cases ho : o.id; rw [ho] at h5; simp only at h5; rw [h5]))]
      exact h1
    · rw [h4, keepL_mem]
      constructor
      · rintro h (h5 | h5)
        · exact h h5
        · exact he h5
      · exact fun h h5 => h (.inl h5)
/-- a maker -/
structure MkIs (B bm bq : Nat) (v : Value) (n : Nat) (D : DataW Unit) (l : List Ob) (w : World) : Prop where
  box : Has w bm [v, .map (some bq)] 56
  own : w.ownsRow B 60 2 v l.length (l.flatMap oc)
  map : w.ownsMap Tryd.prog 9 (plainElem Tryd.prog 3) bq n D
  met : Met D l n
  le : B ≤ bm ∧ B ≤ bq
theorem MkIs.keep {B bm bq n : Nat} {v : Value} {D : DataW Unit} {l : List Ob} {w w' : World} {S : Nat → Prop} (h : MkIs B bm bq v n D l w) (m : Mod S w w') (h1 : ¬ S bm) (h2 : ¬ S bq) (h3 : ∀ k, v.ownBlock = some k → ¬ S k) : MkIs B bm bq v n D l w' :=
  ⟨h.box.keep m h1, own_keep h.own m (fun k _ hk => h3 k hk), ownsMap_keep h.map m h2, h.met, h.le⟩
set_option maxRecDepth 100000 in
theorem MkIs.look {B bm bq n : Nat} {v : Value} {D : DataW Unit} {l : List Ob} {w : World} (h : MkIs B bm bq v n D l w) (id : ByteArray) (hz : id.size ≤ 1000) {c : Int} (hc : D.atKey (kl id) (.lit (.int .i64 0)) = .lit (.int .i64 c)) :
    (Instr.lookup 54 (.map (some bq)) (.string id) false).run Tryd.prog w = .ok (.int .i64 c) w := by
  obtain ⟨c', hrun, hat, _⟩ := h.map.lookup_int (t := 54) (string_keyed Tryd.underlying9) Tryd.underlying54 Tryd.underlying3 (zeroE w) (WideMaps.keyOf_string_mk Tryd.underlying9 (s := id) (by unfold maxLen; omega))
  unfold kl at hc
  rw [hc] at hat
  obtain rfl : c = c' := by injection hat with hat; injection hat
  exact hrun
set_option maxRecDepth 100000 in
theorem MkIs.ne {B bm bq n : Nat} {v : Value} {D : DataW Unit} {l : List Ob} {w : World} (h : MkIs B bm bq v n D l w) : bm ≠ bq ∧ v.ownBlock ≠ some bm ∧ v.ownBlock ≠ some bq := by
  have hb := h.box
  unfold Has at hb
  obtain ⟨es, clock, hq, _⟩ := h.map
  refine ⟨fun e => ?_, fun e => ?_, fun e => ?_⟩
  · rw [← e, hb] at hq; cases hq
  · exact absurd rfl (has_ne h.box (own_row h.own e) (by decide))
  · obtain ⟨cur, fr, ho⟩ := own_row h.own e
    rw [hq] at ho; cases ho
end Blob
end Go.Proofs.YthgcjfpaekpeeaaDoor
