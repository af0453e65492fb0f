/- A taker's reader, as one thing; the walk of object's TakeLeaf. -/
import Derived.Test.YtenamjldkaggcaaDoorObjP
namespace Go.Proofs.YtenamjldkaggcaaDoor
set_option linter.unusedVariables false
set_option linter.unusedSimpArgs false
open Go.RowKit K Wire
namespace Obj

/-- the reader of a taker that began in w0 -/
structure Rd (w0 : World) (b : Nat) (L : List UInt8) (x : RS) (w : World) : Prop where
  ex : ∃ A c v, RAt w w0.heap.size b L A c x v
  base : w0.heap.size ≤ b
  mod : Mod (fun _ => False) w0 w
def RdPost (w0 : World) (b : Nat) (L : List UInt8) (x : RS) (u : Value) (w : World) (e : Ending) (w' : World) : Prop := e = .returned u ∧ Rd w0 b L x w' ∧ ModB w0.heap.size b w w'

theorem ModB.mod {w0 w w' : World} {b : Nat} (hb : w0.heap.size ≤ b) (h : Mod (fun _ => False) w0 w) (m : ModB w0.heap.size b w w') : Mod (fun _ => False) w0 w' :=
  Mod.trans h m fun i hi hs => by
    rcases hs with rfl | ⟨hs, _⟩ <;> omega
theorem Rd.keep {w0 : World} {b : Nat} {L : List UInt8} {x : RS} {w w' : World} {S : Nat → Prop} (h : Rd w0 b L x w) (m : Mod S w w') (h1 : ¬ S b) (h2 : ∀ k, ByteRow w k → ¬ S k) (h3 : ∀ k, k < w0.heap.size → ¬ S k) : Rd w0 b L x w' := by
  obtain ⟨⟨A, c, v, hR⟩, hb, hm⟩ := h
  refine ⟨⟨A, c, v, hR.wr.keep m h1 (fun k hk => h2 k (own_row hR.wr.own hk)), hR.cells.keep m (fun a ha => ?_), hR.adr, hR.cap, hR.max, fun a ha => ?_, hR.here⟩, hb, Mod.trans hm m fun i hi hs => h3 i hi hs⟩
  · obtain ⟨cur, fr, hr, hf⟩ := hR.row a ha
    exact h2 _ ⟨cur, fr, hr⟩
  · obtain ⟨cur, fr, hr, hf⟩ := hR.row a ha
    exact ⟨cur, fr, (m.block _ (Array.getElem?_eq_some_iff.1 hr).1 (h2 _ ⟨cur, fr, hr⟩)).trans hr, hf⟩
theorem Rd.newer {w0 : World} {b : Nat} {L : List UInt8} {x : RS} {w w' : World} (h : Rd w0 b L x w) (m : Mod (fun _ => False) w w') : Rd w0 b L x w' := h.keep m (fun h => h) (fun _ _ h => h) (fun _ _ h => h)
theorem Rd.alloc {w0 : World} {b : Nat} {L : List UInt8} {x : RS} {w : World} (h : Rd w0 b L x w) (o : Go.Obj) : Rd w0 b L x (w.alloc o) := h.newer (Mod.alloc (Mod.refl _ _) o)
theorem Rd.step {w0 : World} {b : Nat} {L : List UInt8} {x x' : RS} {w w' : World} {A : Option Addr} {c : Nat} {u : Value} {e : Ending} (h : Rd w0 b L x w) (h2 : ROp w0.heap.size b L A c x' u w e w') : RdPost w0 b L x' u w e w' := by
  obtain ⟨he, v', hR', hm⟩ := h2
  exact ⟨he, ⟨⟨A, c, v', hR'⟩, h.base, ModB.mod h.base h.mod hm⟩, hm⟩
theorem Rd.cell1 {w0 : World} {b : Nat} {L : List UInt8} {x : RS} {w : World} (h : Rd w0 b L x w) : w.cell? ⟨b, 1, none⟩ = some (.bool x.bad) := by
  obtain ⟨A, c, v, hR⟩ := h.ex
  exact hR.wr.has.cell (o := 1) rfl
theorem Rd.has {w0 : World} {b : Nat} {L : List UInt8} {x : RS} {w : World} (h : Rd w0 b L x w) : ∃ cs, Has w b cs 83 := by
  obtain ⟨A, c, v, hR⟩ := h.ex
  exact ⟨_, hR.wr.has⟩

theorem reads_rd (s : ByteArray) (m : UInt8) (w : World) (hm : s.size ≤ 100000000) :
    Calls Tryd.prog 42 #[.string s, .int .u8 (m.toNat : Int)] w fun e w' => ∃ b, e = .returned (.pointer (some ⟨b, 0, none⟩)) ∧ Rd w b s.data.toList ⟨[m], false, 1⟩ w' := by
  refine (reads_calls s m w hm).mono ?_
  rintro e w' ⟨b, A, c, v, he, hR, hb, hM⟩
  exact ⟨b, he, ⟨A, c, v, hR⟩, hb, hM⟩
theorem int_rd {w0 : World} {b : Nat} {L : List UInt8} {x : RS} {w : World} (h : Rd w0 b L x w) (lo hi : Int) (hl : x.bad = false → x.l.length ≤ 100000000) (hL : L.length ≤ 100000000) :
    Calls Tryd.prog 43 #[.pointer (some ⟨b, 0, none⟩), .int .i64 lo, .int .i64 hi] w (RdPost w0 b L (tInt L lo hi x).2 (.int .i64 (tInt L lo hi x).1) w) := by
  obtain ⟨A, c, v, hR⟩ := h.ex
  exact (rInt_calls _ b L A c x v lo hi w hR hl hL).mono fun e w' h2 => h.step h2
theorem text_rd {w0 : World} {b : Nat} {L : List UInt8} {x : RS} {w : World} (h : Rd w0 b L x w) (lo hi : Int) (hl : x.bad = false → x.l.length ≤ 100000000) (hL : L.length ≤ 100000000) :
    Calls Tryd.prog 50 #[.pointer (some ⟨b, 0, none⟩), .int .i64 lo, .int .i64 hi] w (RdPost w0 b L (tText L lo hi x).2 (.string ⟨(tText L lo hi x).1.toArray⟩) w) := by
  obtain ⟨A, c, v, hR⟩ := h.ex
  exact (rText_calls _ b L A c x v lo hi w hR hl hL).mono fun e w' h2 => h.step h2
theorem id_rd {w0 : World} {b : Nat} {L : List UInt8} {x : RS} {w : World} (h : Rd w0 b L x w) (hl : x.bad = false → x.l.length ≤ 100000000) (hL : L.length ≤ 100000000) :
    Calls Tryd.prog 44 #[.pointer (some ⟨b, 0, none⟩)] w (RdPost w0 b L (tId L x).2 (.string ⟨(tId L x).1.toArray⟩) w) := by
  obtain ⟨A, c, v, hR⟩ := h.ex
  exact (rId_calls _ b L A c x v w hR hl hL).mono fun e w' h2 => h.step h2
theorem whole_rd {w0 : World} {b : Nat} {L : List UInt8} {x : RS} {w : World} (h : Rd w0 b L x w) :
    Calls Tryd.prog 47 #[.pointer (some ⟨b, 0, none⟩)] w fun e w' => e = .returned (.bool (wholeB L x)) ∧ Mod (fun _ => False) w w' := by
  obtain ⟨A, c, v, hR⟩ := h.ex
  exact whole_calls _ b L A c x v w hR
def RS.ask (ok : Bool) (x : RS) : RS := ⟨x.l, x.bad || !ok, x.p⟩
theorem Rd.asked {w0 : World} {b : Nat} {L : List UInt8} {x : RS} {ok : Bool} {w w' : World} {A : Option Addr} {c : Nat} {v : Value} {e : Ending} (h : Rd w0 b L x w) (hR : RAt w w0.heap.size b L A c x v)
    (h2 : e = .returned (.tuple #[]) ∧ Has w' b (v :: .bool (x.bad || !ok) :: [.slice A L.length c, .int .i64 x.p]) 83 ∧ Mod (fun k => k = b) w w') : RdPost w0 b L (x.ask ok) (.tuple #[]) w e w' := by
  obtain ⟨he, hh, hm⟩ := h2
  refine h.step ⟨he, v, hR.next (x' := x.ask ok) ⟨hh, own_keep hR.wr.own hm (fun k _ hk hkb => hR.wr.ne (by decide) k hk hkb), Nat.le_trans hR.wr.base hm.size⟩ (hm.mono fun _ _ h => .inl h) hR.here, ModB.of hm⟩
theorem rising_rd {w0 : World} {b : Nat} {L : List UInt8} {x : RS} {w : World} (h : Rd w0 b L x w) (A : Option Addr) (c : Nat) (l : List Pair) (hA : Cells w A (l.flatMap kc)) (hAb : ∀ a, A = some a → l ≠ [] → a.block ≠ b) (hc : l.length ≤ 100000000) :
    Calls Tryd.prog 51 #[.pointer (some ⟨b, 0, none⟩), .slice A l.length c, .func (.func 52) #[] #[]] w (RdPost w0 b L (x.ask (rises (l.map (·.key)))) (.tuple #[]) w) := by
  obtain ⟨A', c', v, hR⟩ := h.ex
  exact (risingP_calls b _ v x.bad _ A c l w hR.wr.has hA hAb hc).mono fun e w' h2 => h.asked hR h2
theorem risingL_rd {w0 : World} {b : Nat} {L : List UInt8} {x : RS} {w : World} (h : Rd w0 b L x w) (A : Option Addr) (c : Nat) (l : List Link) (hA : Cells w A (l.flatMap lc)) (hAb : ∀ a, A = some a → l ≠ [] → a.block ≠ b) (hc : l.length ≤ 100000000) :
    Calls Tryd.prog 54 #[.pointer (some ⟨b, 0, none⟩), .slice A l.length c, .func (.func 55) #[] #[]] w (RdPost w0 b L (x.ask (rises (l.map (·.last)))) (.tuple #[]) w) := by
  obtain ⟨A', c', v, hR⟩ := h.ex
  exact (risingL_calls b _ v x.bad _ A c l w hR.wr.has hA hAb hc).mono fun e w' h2 => h.asked hR h2
theorem sumP_rd {w0 : World} {b : Nat} {L : List UInt8} {x : RS} {w : World} (h : Rd w0 b L x w) (A : Option Addr) (c : Nat) (l : List Part) (most : Int) (hA : Cells w A (l.flatMap pc)) (hc : l.length ≤ 100000000) (hm : 0 ≤ most ∧ most ≤ 1000000000) (hs : ∀ p ∈ l, In64 p.size) :
    Calls Tryd.prog 45 #[.pointer (some ⟨b, 0, none⟩), .slice A l.length c, .func (.func 46) #[] #[], .int .i64 most] w (RdPost w0 b L (x.ask (decide (capSum most (l.map (·.size)) ≤ most))) (.tuple #[]) w) := by
  obtain ⟨A', c', v, hR⟩ := h.ex
  exact (sumP_calls b _ v x.bad _ A c l most w hR.wr.has hA hc hm hs).mono fun e w' h2 => h.asked hR h2
theorem sumL_rd {w0 : World} {b : Nat} {L : List UInt8} {x : RS} {w : World} (h : Rd w0 b L x w) (A : Option Addr) (c : Nat) (l : List Link) (most : Int) (hA : Cells w A (l.flatMap lc)) (hc : l.length ≤ 100000000) (hm : 0 ≤ most ∧ most ≤ 1000000000) (hs : ∀ p ∈ l, In64 p.many) :
    Calls Tryd.prog 56 #[.pointer (some ⟨b, 0, none⟩), .slice A l.length c, .func (.func 57) #[] #[], .int .i64 most] w (RdPost w0 b L (x.ask (decide (capSum most (l.map (·.many)) ≤ most))) (.tuple #[]) w) := by
  obtain ⟨A', c', v, hR⟩ := h.ex
  exact (sumL_calls b _ v x.bad _ A c l most w hR.wr.has hA hc hm hs).mono fun e w' h2 => h.asked hR h2
theorem ask_rd {w0 : World} {b : Nat} {L : List UInt8} {x : RS} {w : World} (h : Rd w0 b L x w) (ok : Bool) :
    Calls Tryd.prog 40 #[.pointer (some ⟨b, 0, none⟩), .bool ok] w (RdPost w0 b L (x.ask ok) (.tuple #[]) w) := by
  obtain ⟨A', c', v, hR⟩ := h.ex
  exact (ask_calls b _ v x.bad ok _ w hR.wr.has).mono fun e w' h2 => h.asked hR h2

theorem cells_new (w : World) (cs : List Value) (e : TypeId) : ∀ j x, cs[j]? = some x → (w.alloc (.cells cs.toArray e)).cell? ((⟨w.heap.size, 0, none⟩ : Addr).add j) = some x := by
  intro j x hj
  have h := (Has.new w cs e).cell (o := j) hj
  have e2 : (⟨w.heap.size, 0, none⟩ : Addr).add j = ⟨w.heap.size, j, none⟩ := by unfold Addr.add; split <;> simp_all
  rw [e2]; exact h
theorem byteRow_ne {w : World} {k e : Nat} (h : ByteRow w k) (h2 : ∃ cur fz, w.heap[k]? = some (.cells cur e fz)) (he : e ≠ 5) : False := by
  obtain ⟨c1, f1, h1⟩ := h
  obtain ⟨c2, f2, h2⟩ := h2
  rw [h1] at h2; simp at h2; exact he h2.2.1.symm
/-! what is read, one behind the other -/
def rdList {α : Type} (f : RS → α × RS) : Nat → RS → List α → RS × List α
  | 0, x, l => (x, l)
  | n + 1, x, l => if x.bad then (x, l) else rdList f n (f x).2 (l ++ [(f x).1])
theorem rdList_stop {α : Type} (f : RS → α × RS) (n : Nat) (x : RS) (l : List α) (h : n = 0 ∨ x.bad = true) : rdList f n x l = (x, l) := by
  cases n with
  | zero => rfl
  | succ n => rcases h with h | h; cases h; rw [rdList, if_pos h]
theorem rdList_go {α : Type} (f : RS → α × RS) (n : Nat) (x : RS) (l : List α) (h : x.bad = false) : rdList f (n + 1) x l = rdList f n (f x).2 (l ++ [(f x).1]) := by
  rw [rdList, if_neg (by rw [h]; decide)]
/-- what a step adds, where nothing is wrong behind it -/
theorem tInt_l (L : List UInt8) (lo hi : Int) (x : RS) (h : (tInt L lo hi x).2.bad = false) : x.bad = false ∧ (tInt L lo hi x).2.l.length ≤ x.l.length + 10 ∧ lo ≤ (tInt L lo hi x).1 ∧ (tInt L lo hi x).1 ≤ hi := by
  unfold tInt at *
  by_cases hb : x.bad = true
  · rw [if_pos hb] at h; exact absurd h (by rw [hb]; decide)
  · rw [if_neg hb] at *
    have := enc_len _ (takeI_in L x.p).1
    dsimp only at *
    simp only [Bool.or_eq_false_iff, Bool.not_eq_false', inR, Bool.and_eq_true, decide_eq_true_eq] at h
    rw [List.length_append]
    exact ⟨by simpa using hb, by omega, h.2⟩
theorem tText_l (L : List UInt8) (lo hi : Int) (x : RS) (hh : hi ≤ 1048576) (h : (tText L lo hi x).2.bad = false) : x.bad = false ∧ ((tText L lo hi x).2.l.length : Int) ≤ x.l.length + 10 + hi := by
  unfold tText at *
  by_cases hb : x.bad = true
  · rw [if_pos hb] at h; exact absurd h (by rw [hb]; decide)
  · rw [if_neg hb] at *
    dsimp only at *
    simp only [Bool.or_eq_false_iff, Bool.not_eq_false', inR, Bool.and_eq_true, decide_eq_true_eq] at h
    have := encT_len ⟨(takeT L x.p hi).1.toArray⟩ (by show (takeT L x.p hi).1.length ≤ _; omega)
    have e : (⟨(takeT L x.p hi).1.toArray⟩ : ByteArray).size = (takeT L x.p hi).1.length := rfl
    rw [e] at this
    dsimp only at this
    rw [List.length_append]
    exact ⟨by simpa using hb, by push_cast; omega⟩
theorem tId_l (L : List UInt8) (x : RS) (h : (tId L x).2.bad = false) : x.bad = false ∧ (tId L x).2.l.length ≤ x.l.length + 32 := by
  unfold tId at *
  by_cases hb : x.bad = true ∨ (L.length : Int) - x.p < 32
  · rw [if_pos hb] at h; cases h
  · rw [if_neg hb] at *
    dsimp only at *
    rw [List.length_append, List.length_take]
    exact ⟨by cases hx : x.bad with
      | true => exact absurd (.inl hx) hb
      | false => rfl, by omega⟩

def rdPair (L : List UInt8) (x : RS) : Pair × RS := (⟨⟨(tText L 1 64 x).1.toArray⟩, ⟨(tText L 0 128 (tText L 1 64 x).2).1.toArray⟩⟩, (tText L 0 128 (tText L 1 64 x).2).2)
theorem rdPair_l (L : List UInt8) (x : RS) (h : (rdPair L x).2.bad = false) : x.bad = false ∧ (rdPair L x).2.l.length ≤ x.l.length + 212 := by
  have h1 := tText_l L 0 128 _ (by omega) h
  have h2 := tText_l L 1 64 x (by omega) h1.1
  refine ⟨h2.1, ?_⟩
  show (tText L 0 128 (tText L 1 64 x).2).2.l.length ≤ _
  omega
theorem tInt_in (L : List UInt8) (lo hi : Int) (x : RS) : In64 (tInt L lo hi x).1 := by
  unfold tInt
  split
  · unfold In64; exact ⟨by show (_:Int) ≤ 0; omega, by show (0:Int) < _; omega⟩
  · exact (takeI_in L x.p).1
/-- what TakeLeaf reads -/
def rdLeaf (L : List UInt8) : RS × List Pair :=
  rdList (rdPair L) (tInt L 0 64 ⟨[0x4c], false, 1⟩).1.toNat (tInt L 0 64 ⟨[0x4c], false, 1⟩).2 []
def okLeaf (L : List UInt8) : Bool := wholeB L ((rdLeaf L).1.ask (rises ((rdLeaf L).2.map (·.key))))
def outLeaf (L : List UInt8) : List Pair := if okLeaf L then (rdLeaf L).2 else []
def errV (ok : Bool) : Value := .int .i64 (if ok then 0 else 81)

set_option maxRecDepth 100000 in
theorem pair_t : SliceT Tryd.prog 36 71 2 32 := ⟨Tryd.underlying36, by decide, _, .agg #[.string ByteArray.empty, .string ByteArray.empty], rfl, rfl, rfl, rfl, rfl⟩

set_option maxRecDepth 100000 in
set_option maxHeartbeats 1000000 in
theorem takeLeaf_calls (s : ByteArray) (w : World) (hs : s.size ≤ 100000000) :
    Calls Tryd.prog 14 #[.string s] w fun e w' => ∃ v, e = .returned (.tuple #[v, errV (okLeaf s.data.toList)]) ∧ w'.ownsRow w.heap.size 71 2 v (outLeaf s.data.toList).length ((outLeaf s.data.toList).flatMap kc) ∧ Mod (fun _ => False) w w' := by
  have hL : s.data.toList.length ≤ 100000000 := by simpa using hs
  have H0 := Lib.hid (reads_rd s 76 w hs)
  clear hs
  generalize s.data.toList = L at *
  go_enter Tryd.func14, Tryd.ntmps14
  go_wp2_with fail
  refine H0.out.mono ?_
  rintro e w1 ⟨b, rfl, h1⟩
  have H1 := Lib.hid h1
  clear h1 H0
  go_wp2_with fail
  refine (int_rd H1.out 0 64 (fun _ => by simp) hL).mono ?_
  rintro e w2 ⟨rfl, h2, _⟩
  have hn := tInt_l L 0 64 ⟨[0x4c], false, 1⟩
  have hdef : rdLeaf L = rdList (rdPair L) (tInt L 0 64 ⟨[0x4c], false, 1⟩).1.toNat (tInt L 0 64 ⟨[0x4c], false, 1⟩).2 [] := rfl
  have hin : In64 (tInt L 0 64 ⟨[0x4c], false, 1⟩).1 := tInt_in L 0 64 _
  generalize (tInt L 0 64 ⟨[0x4c], false, 1⟩).1 = n at *
  generalize (tInt L 0 64 ⟨[0x4c], false, 1⟩).2 = x1 at *
  have HDEF := Lib.hid hdef
  have HN := Lib.hid hn
  have H2 := Lib.hid h2
  unfold In64 at hin
  clear hdef hn h2 H1
  have hv0 : w2.ownsRow w.heap.size 71 2 (.slice none 0 0) ([] : List Pair).length (([] : List Pair).flatMap kc) := World.ownsRow_nil _ _ _ _
  have HV0 := Lib.hid hv0
  clear hv0
  go_wp2_with fail
  go_loopw [5, 6] (fun v m wr => ∃ (z : Int) (x : RS) (l : List Pair), m = .int .i64 z ∧ (-9223372036854775808 ≤ z ∧ z ≤ 9223372036854775807) ∧ (x.bad = false → (l.length : Int) + z ≤ 64 ∧ x.l.length ≤ 100 + 212 * l.length) ∧ l.length ≤ 64 ∧
    Hid (rdLeaf L = rdList (rdPair L) z.toNat x l) ∧ Hid (Rd w b L x wr) ∧ Hid (wr.ownsRow w.heap.size 71 2 v l.length (l.flatMap kc))) (fun _ m _ => (intOf m).toNat)
  case atStart =>
    refine ⟨n, x1, [], by go_num, ⟨by omega, by omega⟩, fun hb => ?_, by simp, HDEF, H2, HV0⟩
    have h := HN.out hb
    have h1 := h.2.1
    simp only [List.length_cons, List.length_nil] at h1 ⊢
    omega
  case round =>
    obtain ⟨z, x, l, rfl, hz, hx, hl, HD, HR, HV⟩ := hrel
    have c1 := HR.out.cell1
    by_cases hb : x.bad = true
    · have HD2 : Hid (rdLeaf L = (x, l)) := Lib.hid (by rw [HD.out, rdList_stop _ _ _ _ (.inr hb)])
      rw [hb] at c1
      clear hx HD hb
      by_cases i1 : 0 < z
      ·
        obtain ⟨A, cp, rfl, _, hcl, _, _⟩ := own_cells HV.out
        have hab : ∀ a, A = some a → l ≠ [] → a.block ≠ b := by
          intro a ha hne hab
          obtain ⟨cs, hcs⟩ := HR.out.has
          exact has_ne hcs (own_row HV.out (k := a.block) (by rw [ha]; rfl)) (by decide) hab
        have HAB := Lib.hid hab
        have HCL := Lib.hid hcl
        clear hab hcl
        go_wp2_with fail
        refine (rising_rd HR.out A cp l HCL.out HAB.out (by omega)).mono ?_
        rintro e w3 ⟨rfl, h3, hm3⟩
        have HV3 := Lib.hid (hm3.keepOwn HV.out (by decide) (fun k hk hkb => by
          obtain ⟨cs, hcs⟩ := HR.out.has
          exact has_ne hcs (own_row HV.out hk) (by decide) hkb))
        have hW := whole_rd h3
        have hok : okLeaf L = wholeB L (x.ask (rises (l.map (·.key)))) := by unfold okLeaf; rw [HD2.out]
        rw [← hok] at hW
        have HW := Lib.hid hW
        have HM3 := Lib.hid h3.mod
        clear hW hok h3 hm3
        go_wp2_with fail
        cases hk : okLeaf L with
        | true =>
          have HOK := Lib.hid hk
          rw [hk] at HW
          clear hk
          refine HW.out.mono ?_
          rintro e w4 ⟨rfl, hm4⟩
          have HV4 := Lib.hid (own_keep HV3.out hm4 (fun _ _ _ h => h))
          have HM4 := Lib.hid (Mod.trans HM3.out hm4 (fun _ _ h => h))
          clear hm4
          go_wp2_with fail
          refine bodyPost_ret (v := .tuple #[.slice A l.length cp, .int .i64 0]) (by simp [results, Tryd.results14, go_sem]) rfl ⟨_, by rw [HOK.out]; rfl, ?_, HM4.out⟩
          unfold outLeaf
          rw [if_pos HOK.out, HD2.out]
          exact HV4.out
        | false =>
          have HOK := Lib.hid hk
          rw [hk] at HW
          clear hk
          refine HW.out.mono ?_
          rintro e w4 ⟨rfl, hm4⟩
          have HM4 := Lib.hid (Mod.trans HM3.out hm4 (fun _ _ h => h))
          clear hm4
          go_wp2_with fail
          refine bodyPost_ret (v := .tuple #[.slice none 0 0, .int .i64 81]) (by simp [results, Tryd.results14, go_sem]) rfl ⟨_, by rw [HOK.out]; rfl, ?_, HM4.out⟩
          unfold outLeaf
          rw [if_neg (by rw [HOK.out]; decide)]
          exact World.ownsRow_nil _ _ _ _
      ·
        obtain ⟨A, cp, rfl, _, hcl, _, _⟩ := own_cells HV.out
        have hab : ∀ a, A = some a → l ≠ [] → a.block ≠ b := by
          intro a ha hne hab
          obtain ⟨cs, hcs⟩ := HR.out.has
          exact has_ne hcs (own_row HV.out (k := a.block) (by rw [ha]; rfl)) (by decide) hab
        have HAB := Lib.hid hab
        have HCL := Lib.hid hcl
        clear hab hcl
        go_wp2_with fail
        refine (rising_rd HR.out A cp l HCL.out HAB.out (by omega)).mono ?_
        rintro e w3 ⟨rfl, h3, hm3⟩
        have HV3 := Lib.hid (hm3.keepOwn HV.out (by decide) (fun k hk hkb => by
          obtain ⟨cs, hcs⟩ := HR.out.has
          exact has_ne hcs (own_row HV.out hk) (by decide) hkb))
        have hW := whole_rd h3
        have hok : okLeaf L = wholeB L (x.ask (rises (l.map (·.key)))) := by unfold okLeaf; rw [HD2.out]
        rw [← hok] at hW
        have HW := Lib.hid hW
        have HM3 := Lib.hid h3.mod
        clear hW hok h3 hm3
        go_wp2_with fail
        cases hk : okLeaf L with
        | true =>
          have HOK := Lib.hid hk
          rw [hk] at HW
          clear hk
          refine HW.out.mono ?_
          rintro e w4 ⟨rfl, hm4⟩
          have HV4 := Lib.hid (own_keep HV3.out hm4 (fun _ _ _ h => h))
          have HM4 := Lib.hid (Mod.trans HM3.out hm4 (fun _ _ h => h))
          clear hm4
          go_wp2_with fail
          refine bodyPost_ret (v := .tuple #[.slice A l.length cp, .int .i64 0]) (by simp [results, Tryd.results14, go_sem]) rfl ⟨_, by rw [HOK.out]; rfl, ?_, HM4.out⟩
          unfold outLeaf
          rw [if_pos HOK.out, HD2.out]
          exact HV4.out
        | false =>
          have HOK := Lib.hid hk
          rw [hk] at HW
          clear hk
          refine HW.out.mono ?_
          rintro e w4 ⟨rfl, hm4⟩
          have HM4 := Lib.hid (Mod.trans HM3.out hm4 (fun _ _ h => h))
          clear hm4
          go_wp2_with fail
          refine bodyPost_ret (v := .tuple #[.slice none 0 0, .int .i64 81]) (by simp [results, Tryd.results14, go_sem]) rfl ⟨_, by rw [HOK.out]; rfl, ?_, HM4.out⟩
          unfold outLeaf
          rw [if_neg (by rw [HOK.out]; decide)]
          exact World.ownsRow_nil _ _ _ _
    · have hb0 : x.bad = false := by simpa using hb
      rw [hb0] at c1
      by_cases i1 : 0 < z
      · have i2 : 1 ≤ z := by omega
        obtain ⟨hx1, hx2⟩ := hx hb0
        have hstep : rdLeaf L = rdList (rdPair L) (z - 1).toNat (rdPair L x).2 (l ++ [(rdPair L x).1]) := by
          rw [HD.out, show z.toNat = (z - 1).toNat + 1 by omega, rdList_go _ _ _ _ hb0]
        have HST := Lib.hid hstep
        have hpl := rdPair_l L x
        have HPL := Lib.hid hpl
        have ht1 := tText_l L 1 64 x (by omega)
        have HT1 := Lib.hid ht1
        clear hb hx hstep HD hpl ht1
        go_wp2_with fail
        refine (text_rd HR.out 1 64 (fun _ => by omega) hL).mono ?_
        rintro e w3 ⟨rfl, h3, hm3⟩
        have HV3 := Lib.hid (hm3.keepOwn HV.out (by decide) (fun k hk hkb => by
          obtain ⟨cs, hcs⟩ := HR.out.has
          exact has_ne hcs (own_row HV.out hk) (by decide) hkb))
        have H3 := Lib.hid h3
        clear h3 hm3
        go_wp2_with fail
        refine (text_rd H3.out 0 128 (fun h => by have := HT1.out h; omega) hL).mono ?_
        rintro e w4 ⟨rfl, h4, hm4⟩
        have HV4 := Lib.hid (hm4.keepOwn HV3.out (by decide) (fun k hk hkb => by
          obtain ⟨cs, hcs⟩ := H3.out.has
          exact has_ne hcs (own_row HV3.out hk) (by decide) hkb))
        have H4 := Lib.hid h4
        clear h4 hm4
        generalize hP : (rdPair L x).1 = P at *
        have e1 : (⟨(tText L 1 64 x).1.toArray⟩ : ByteArray) = P.key := by rw [← hP]; rfl
        have e2 : (⟨(tText L 0 128 (tText L 1 64 x).2).1.toArray⟩ : ByteArray) = P.val := by rw [← hP]; rfl
        have e3 : (tText L 0 128 (tText L 1 64 x).2).2 = (rdPair L x).2 := rfl
        rw [e1, e2]
        rw [e3] at H4
        generalize (rdPair L x).2 = x4 at *
        have hva := HV4.out.alloc (.cells #[.string P.key, .string P.val] 71)
        have HVA := Lib.hid hva
        have hna := cells_new w4 [.string P.key, .string P.val] 71
        have HNA := Lib.hid hna
        have hbs : w.heap.size ≤ w4.heap.size := H4.out.mod.size
        clear hva hna hP e1 e2 e3 HV3 H3 HV4 HT1
        go_wp2_with (first
          | (at_builtin
             go_must (refine app (.tmp 23) (.tmp 29) pair_t w.heap.size u5 l.length (l.flatMap kc) HVA.out ⟨w4.heap.size, 0, none⟩ 1 1 [.string P.key, .string P.val] rfl rfl rfl rfl rfl HNA.out (by intro u hu; simp at hu; rcases hu with rfl | rfl <;> rfl) (by omega) (by unfold maxLen; omega) (by simp; omega) ?_; intro v5 w5 ho hm5)
             have hRA := H4.out.alloc (.cells #[.string P.key, .string P.val] 71)
             obtain ⟨cs, hcs⟩ := hRA.has
             have h5 : Rd w b L x4 w5 := hRA.keep hm5 (fun hs => has_ne hcs (own_row HVA.out hs.2) (by decide) rfl) (fun k hk hs => byteRow_ne hk (own_row HVA.out hs.2) (by decide)) (fun k hk hs => by omega)
             have hv5 : w5.ownsRow w.heap.size 71 2 v5 (l ++ [P]).length ((l ++ [P]).flatMap kc) := by rw [List.length_append, List.flatMap_append]; exact ho
             have H5 := Lib.hid h5
             have HV5 := Lib.hid hv5
             clear ho hm5 hRA hcs h5 hv5 HVA HNA))
        have w1 : IntKind.i64.wrap (z - 1) = z - 1 := by rw [IntKind.wrap_i64]; omega
        go_wp2_with fail
        go_roundw
        case rel =>
          refine ⟨z - 1, x4, l ++ [P], rfl, by omega, fun h => ?_, by simp; omega, HST, H5, HV5⟩
          have := (HPL.out h).2
          rw [List.length_append, List.length_singleton]
          omega
        case measure => simp [intOf]; omega
      · have HD2 : Hid (rdLeaf L = (x, l)) := Lib.hid (by rw [HD.out, rdList_stop _ _ _ _ (.inl (by omega))])
        clear hx HD hb hb0
        obtain ⟨A, cp, rfl, _, hcl, _, _⟩ := own_cells HV.out
        have hab : ∀ a, A = some a → l ≠ [] → a.block ≠ b := by
          intro a ha hne hab
          obtain ⟨cs, hcs⟩ := HR.out.has
          exact has_ne hcs (own_row HV.out (k := a.block) (by rw [ha]; rfl)) (by decide) hab
        have HAB := Lib.hid hab
        have HCL := Lib.hid hcl
        clear hab hcl
        go_wp2_with fail
        refine (rising_rd HR.out A cp l HCL.out HAB.out (by omega)).mono ?_
        rintro e w3 ⟨rfl, h3, hm3⟩
        have HV3 := Lib.hid (hm3.keepOwn HV.out (by decide) (fun k hk hkb => by
          obtain ⟨cs, hcs⟩ := HR.out.has
          exact has_ne hcs (own_row HV.out hk) (by decide) hkb))
        have hW := whole_rd h3
        have hok : okLeaf L = wholeB L (x.ask (rises (l.map (·.key)))) := by unfold okLeaf; rw [HD2.out]
        rw [← hok] at hW
        have HW := Lib.hid hW
        have HM3 := Lib.hid h3.mod
        clear hW hok h3 hm3
        go_wp2_with fail
        cases hk : okLeaf L with
        | true =>
          have HOK := Lib.hid hk
          rw [hk] at HW
          clear hk
          refine HW.out.mono ?_
          rintro e w4 ⟨rfl, hm4⟩
          have HV4 := Lib.hid (own_keep HV3.out hm4 (fun _ _ _ h => h))
          have HM4 := Lib.hid (Mod.trans HM3.out hm4 (fun _ _ h => h))
          clear hm4
          go_wp2_with fail
          refine bodyPost_ret (v := .tuple #[.slice A l.length cp, .int .i64 0]) (by simp [results, Tryd.results14, go_sem]) rfl ⟨_, by rw [HOK.out]; rfl, ?_, HM4.out⟩
          unfold outLeaf
          rw [if_pos HOK.out, HD2.out]
          exact HV4.out
        | false =>
          have HOK := Lib.hid hk
          rw [hk] at HW
          clear hk
          refine HW.out.mono ?_
          rintro e w4 ⟨rfl, hm4⟩
          have HM4 := Lib.hid (Mod.trans HM3.out hm4 (fun _ _ h => h))
          clear hm4
          go_wp2_with fail
          refine bodyPost_ret (v := .tuple #[.slice none 0 0, .int .i64 81]) (by simp [results, Tryd.results14, go_sem]) rfl ⟨_, by rw [HOK.out]; rfl, ?_, HM4.out⟩
          unfold outLeaf
          rw [if_neg (by rw [HOK.out]; decide)]
          exact World.ownsRow_nil _ _ _ _
end Obj
end Go.Proofs.YtenamjldkaggcaaDoor
