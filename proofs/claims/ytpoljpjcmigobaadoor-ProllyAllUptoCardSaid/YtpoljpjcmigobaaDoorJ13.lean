/- Joined texts: ObjQ, ObjTf, ObjTb. -/
import Derived.Test.YtpoljpjcmigobaaDoorJ12
/- A taker's reader, as one thing; the walk of object's TakeLeaf. -/
namespace Go.Proofs.YtpoljpjcmigobaaDoor
set_option linter.unusedVariables false
set_option linter.unusedSimpArgs false
open Go.RowKit K Wire
namespace Obj

/-- the reader of a taker that began in w0 -/
structure Rd (w0 : World) (b : Nat) (L : List UInt8) (x : RS) (w : World) : Prop where
  ex : ∃ A c v, RAt w w0.heap.size b L A c x v
  base : w0.heap.size ≤ b
  mod : Mod (fun _ => False) w0 w
def RdPost (w0 : World) (b : Nat) (L : List UInt8) (x : RS) (u : Value) (w : World) (e : Ending) (w' : World) : Prop := e = .returned u ∧ Rd w0 b L x w' ∧ ModB w0.heap.size b w w'

theorem ModB.mod {w0 w w' : World} {b : Nat} (hb : w0.heap.size ≤ b) (h : Mod (fun _ => False) w0 w) (m : ModB w0.heap.size b w w') : Mod (fun _ => False) w0 w' :=
  Mod.trans h m fun i hi hs => by
    rcases hs with rfl | ⟨hs, _⟩ <;> omega
theorem Rd.keep {w0 : World} {b : Nat} {L : List UInt8} {x : RS} {w w' : World} {S : Nat → Prop} (h : Rd w0 b L x w) (m : Mod S w w') (h1 : ¬ S b) (h2 : ∀ k, ByteRow w k → ¬ S k) (h3 : ∀ k, k < w0.heap.size → ¬ S k) : Rd w0 b L x w' := by
  obtain ⟨⟨A, c, v, hR⟩, hb, hm⟩ := h
  refine ⟨⟨A, c, v, hR.wr.keep m h1 (fun k hk => h2 k (own_row hR.wr.own hk)), hR.cells.keep m (fun a ha => ?_), hR.adr, hR.cap, hR.max, fun a ha => ?_, hR.here⟩, hb, Mod.trans hm m fun i hi hs => h3 i hi hs⟩
  · obtain ⟨cur, fr, hr, hf⟩ := hR.row a ha
    exact h2 _ ⟨cur, fr, hr⟩
  · obtain ⟨cur, fr, hr, hf⟩ := hR.row a ha
    exact ⟨cur, fr, (m.block _ (Array.getElem?_eq_some_iff.1 hr).1 (h2 _ ⟨cur, fr, hr⟩)).trans hr, hf⟩
theorem Rd.newer {w0 : World} {b : Nat} {L : List UInt8} {x : RS} {w w' : World} (h : Rd w0 b L x w) (m : Mod (fun _ => False) w w') : Rd w0 b L x w' := h.keep m (fun h => h) (fun _ _ h => h) (fun _ _ h => h)
theorem Rd.alloc {w0 : World} {b : Nat} {L : List UInt8} {x : RS} {w : World} (h : Rd w0 b L x w) (o : Go.Obj) : Rd w0 b L x (w.alloc o) := h.newer (Mod.alloc (Mod.refl _ _) o)
theorem Rd.step {w0 : World} {b : Nat} {L : List UInt8} {x x' : RS} {w w' : World} {A : Option Addr} {c : Nat} {u : Value} {e : Ending} (h : Rd w0 b L x w) (h2 : ROp w0.heap.size b L A c x' u w e w') : RdPost w0 b L x' u w e w' := by
  obtain ⟨he, v', hR', hm⟩ := h2
  exact ⟨he, ⟨⟨A, c, v', hR'⟩, h.base, ModB.mod h.base h.mod hm⟩, hm⟩
theorem Rd.cell1 {w0 : World} {b : Nat} {L : List UInt8} {x : RS} {w : World} (h : Rd w0 b L x w) : w.cell? ⟨b, 1, none⟩ = some (.bool x.bad) := by
  obtain ⟨A, c, v, hR⟩ := h.ex
  exact hR.wr.has.cell (o := 1) rfl
theorem Rd.has {w0 : World} {b : Nat} {L : List UInt8} {x : RS} {w : World} (h : Rd w0 b L x w) : ∃ cs, Has w b cs 138 := by
  obtain ⟨A, c, v, hR⟩ := h.ex
  exact ⟨_, hR.wr.has⟩

theorem reads_rd (s : ByteArray) (m : UInt8) (w : World) (hm : s.size ≤ 100000000) :
    Calls Tryd.prog 86 #[.string s, .int .u8 (m.toNat : Int)] w fun e w' => ∃ b, e = .returned (.pointer (some ⟨b, 0, none⟩)) ∧ Rd w b s.data.toList ⟨[m], false, 1⟩ w' := by
  refine (reads_calls s m w hm).mono ?_
  rintro e w' ⟨b, A, c, v, he, hR, hb, hM⟩
  exact ⟨b, he, ⟨A, c, v, hR⟩, hb, hM⟩
theorem int_rd {w0 : World} {b : Nat} {L : List UInt8} {x : RS} {w : World} (h : Rd w0 b L x w) (lo hi : Int) (hl : x.bad = false → x.l.length ≤ 100000000) (hL : L.length ≤ 100000000) :
    Calls Tryd.prog 87 #[.pointer (some ⟨b, 0, none⟩), .int .i64 lo, .int .i64 hi] w (RdPost w0 b L (tInt L lo hi x).2 (.int .i64 (tInt L lo hi x).1) w) := by
  obtain ⟨A, c, v, hR⟩ := h.ex
  exact (rInt_calls _ b L A c x v lo hi w hR hl hL).mono fun e w' h2 => h.step h2
theorem text_rd {w0 : World} {b : Nat} {L : List UInt8} {x : RS} {w : World} (h : Rd w0 b L x w) (lo hi : Int) (hl : x.bad = false → x.l.length ≤ 100000000) (hL : L.length ≤ 100000000) :
    Calls Tryd.prog 88 #[.pointer (some ⟨b, 0, none⟩), .int .i64 lo, .int .i64 hi] w (RdPost w0 b L (tText L lo hi x).2 (.string ⟨(tText L lo hi x).1.toArray⟩) w) := by
  obtain ⟨A, c, v, hR⟩ := h.ex
  exact (rText_calls _ b L A c x v lo hi w hR hl hL).mono fun e w' h2 => h.step h2
theorem id_rd {w0 : World} {b : Nat} {L : List UInt8} {x : RS} {w : World} (h : Rd w0 b L x w) (hl : x.bad = false → x.l.length ≤ 100000000) (hL : L.length ≤ 100000000) :
    Calls Tryd.prog 90 #[.pointer (some ⟨b, 0, none⟩)] w (RdPost w0 b L (tId L x).2 (.string ⟨(tId L x).1.toArray⟩) w) := by
  obtain ⟨A, c, v, hR⟩ := h.ex
  exact (rId_calls _ b L A c x v w hR hl hL).mono fun e w' h2 => h.step h2
theorem whole_rd {w0 : World} {b : Nat} {L : List UInt8} {x : RS} {w : World} (h : Rd w0 b L x w) :
    Calls Tryd.prog 89 #[.pointer (some ⟨b, 0, none⟩)] w fun e w' => e = .returned (.bool (wholeB L x)) ∧ Mod (fun _ => False) w w' := by
  obtain ⟨A, c, v, hR⟩ := h.ex
  exact whole_calls _ b L A c x v w hR
def RS.ask (ok : Bool) (x : RS) : RS := ⟨x.l, x.bad || !ok, x.p⟩
theorem Rd.asked {w0 : World} {b : Nat} {L : List UInt8} {x : RS} {ok : Bool} {w w' : World} {A : Option Addr} {c : Nat} {v : Value} {e : Ending} (h : Rd w0 b L x w) (hR : RAt w w0.heap.size b L A c x v)
    (h2 : e = .returned (.tuple #[]) ∧ Has w' b (v :: .bool (x.bad || !ok) :: [.slice A L.length c, .int .i64 x.p]) 138 ∧ Mod (fun k => k = b) w w') : RdPost w0 b L (x.ask ok) (.tuple #[]) w e w' := by
  obtain ⟨he, hh, hm⟩ := h2
  refine h.step ⟨he, v, hR.next (x' := x.ask ok) ⟨hh, own_keep hR.wr.own hm (fun k _ hk hkb => hR.wr.ne (by decide) k hk hkb), Nat.le_trans hR.wr.base hm.size⟩ (hm.mono fun _ _ h => .inl h) hR.here, ModB.of hm⟩
theorem rising_rd {w0 : World} {b : Nat} {L : List UInt8} {x : RS} {w : World} (h : Rd w0 b L x w) (A : Option Addr) (c : Nat) (l : List Pair) (hA : Cells w A (l.flatMap kc)) (hAb : ∀ a, A = some a → l ≠ [] → a.block ≠ b) (hc : l.length ≤ 100000000) :
    Calls Tryd.prog 51 #[.pointer (some ⟨b, 0, none⟩), .slice A l.length c, .func (.func 52) #[] #[]] w (RdPost w0 b L (x.ask (rises (l.map (·.key)))) (.tuple #[]) w) := by
  obtain ⟨A', c', v, hR⟩ := h.ex
  exact (risingP_calls b _ v x.bad _ A c l w hR.wr.has hA hAb hc).mono fun e w' h2 => h.asked hR h2
theorem risingL_rd {w0 : World} {b : Nat} {L : List UInt8} {x : RS} {w : World} (h : Rd w0 b L x w) (A : Option Addr) (c : Nat) (l : List Link) (hA : Cells w A (l.flatMap lc)) (hAb : ∀ a, A = some a → l ≠ [] → a.block ≠ b) (hc : l.length ≤ 100000000) :
    Calls Tryd.prog 56 #[.pointer (some ⟨b, 0, none⟩), .slice A l.length c, .func (.func 57) #[] #[]] w (RdPost w0 b L (x.ask (rises (l.map (·.last)))) (.tuple #[]) w) := by
  obtain ⟨A', c', v, hR⟩ := h.ex
  exact (risingL_calls b _ v x.bad _ A c l w hR.wr.has hA hAb hc).mono fun e w' h2 => h.asked hR h2
theorem sumL_rd {w0 : World} {b : Nat} {L : List UInt8} {x : RS} {w : World} (h : Rd w0 b L x w) (A : Option Addr) (c : Nat) (l : List Link) (most : Int) (hA : Cells w A (l.flatMap lc)) (hc : l.length ≤ 100000000) (hm : 0 ≤ most ∧ most ≤ 1000000000) (hs : ∀ p ∈ l, In64 p.many) :
    Calls Tryd.prog 58 #[.pointer (some ⟨b, 0, none⟩), .slice A l.length c, .func (.func 59) #[] #[], .int .i64 most] w (RdPost w0 b L (x.ask (decide (capSum most (l.map (·.many)) ≤ most))) (.tuple #[]) w) := by
  obtain ⟨A', c', v, hR⟩ := h.ex
  exact (sumL_calls b _ v x.bad _ A c l most w hR.wr.has hA hc hm hs).mono fun e w' h2 => h.asked hR h2
theorem ask_rd {w0 : World} {b : Nat} {L : List UInt8} {x : RS} {w : World} (h : Rd w0 b L x w) (ok : Bool) :
    Calls Tryd.prog 75 #[.pointer (some ⟨b, 0, none⟩), .bool ok] w (RdPost w0 b L (x.ask ok) (.tuple #[]) w) := by
  obtain ⟨A', c', v, hR⟩ := h.ex
  exact (ask_calls b _ v x.bad ok _ w hR.wr.has).mono fun e w' h2 => h.asked hR h2

theorem cells_new (w : World) (cs : List Value) (e : TypeId) : ∀ j x, cs[j]? = some x → (w.alloc (.cells cs.toArray e)).cell? ((⟨w.heap.size, 0, none⟩ : Addr).add j) = some x := by
  intro j x hj
  have h := (Has.new w cs e).cell (o := j) hj
  have e2 : (⟨w.heap.size, 0, none⟩ : Addr).add j = ⟨w.heap.size, j, none⟩ := by unfold Addr.add; split <;> simp_all
  rw [e2]; exact h
theorem byteRow_ne {w : World} {k e : Nat} (h : ByteRow w k) (h2 : ∃ cur fz, w.heap[k]? = some (.cells cur e fz)) (he : e ≠ 5) : False := by
  obtain ⟨c1, f1, h1⟩ := h
  obtain ⟨c2, f2, h2⟩ := h2
  rw [h1] at h2; simp at h2; exact he h2.2.1.symm
/-! what is read, one behind the other -/
def rdList {α : Type} (f : RS → α × RS) : Nat → RS → List α → RS × List α
  | 0, x, l => (x, l)
  | n + 1, x, l => if x.bad then (x, l) else rdList f n (f x).2 (l ++ [(f x).1])
theorem rdList_stop {α : Type} (f : RS → α × RS) (n : Nat) (x : RS) (l : List α) (h : n = 0 ∨ x.bad = true) : rdList f n x l = (x, l) := by
  cases n with
  | zero => rfl
  | succ n => rcases h with h | h; cases h; rw [rdList, if_pos h]
theorem rdList_go {α : Type} (f : RS → α × RS) (n : Nat) (x : RS) (l : List α) (h : x.bad = false) : rdList f (n + 1) x l = rdList f n (f x).2 (l ++ [(f x).1]) := by
  rw [rdList, if_neg (by rw [h]; decide)]
/-- what a step adds, where nothing is wrong behind it -/
theorem tInt_l (L : List UInt8) (lo hi : Int) (x : RS) (h : (tInt L lo hi x).2.bad = false) : x.bad = false ∧ (tInt L lo hi x).2.l.length ≤ x.l.length + 10 ∧ lo ≤ (tInt L lo hi x).1 ∧ (tInt L lo hi x).1 ≤ hi := by
  unfold tInt at *
  by_cases hb : x.bad = true
  · rw [if_pos hb] at h; exact absurd h (by rw [hb]; decide)
  · rw [if_neg hb] at *
    have := enc_len _ (takeI_in L x.p).1
    dsimp only at *
    simp only [Bool.or_eq_false_iff, Bool.not_eq_false', inR, Bool.and_eq_true, decide_eq_true_eq] at h
    rw [List.length_append]
    exact ⟨by simpa using hb, by omega, h.2⟩
theorem tText_l (L : List UInt8) (lo hi : Int) (x : RS) (hh : hi ≤ 1048576) (h : (tText L lo hi x).2.bad = false) : x.bad = false ∧ ((tText L lo hi x).2.l.length : Int) ≤ x.l.length + 10 + hi := by
  unfold tText at *
  by_cases hb : x.bad = true
  · rw [if_pos hb] at h; exact absurd h (by rw [hb]; decide)
  · rw [if_neg hb] at *
    dsimp only at *
    simp only [Bool.or_eq_false_iff, Bool.not_eq_false', inR, Bool.and_eq_true, decide_eq_true_eq] at h
    have := encT_len ⟨(takeT L x.p hi).1.toArray⟩ (by show (takeT L x.p hi).1.length ≤ _; omega)
    have e : (⟨(takeT L x.p hi).1.toArray⟩ : ByteArray).size = (takeT L x.p hi).1.length := rfl
    rw [e] at this
    dsimp only at this
    rw [List.length_append]
    exact ⟨by simpa using hb, by push_cast; omega⟩
theorem tId_l (L : List UInt8) (x : RS) (h : (tId L x).2.bad = false) : x.bad = false ∧ (tId L x).2.l.length ≤ x.l.length + 32 := by
  unfold tId at *
  by_cases hb : x.bad = true ∨ (L.length : Int) - x.p < 32
  · rw [if_pos hb] at h; cases h
  · rw [if_neg hb] at *
    dsimp only at *
    rw [List.length_append, List.length_take]
    exact ⟨by cases hx : x.bad with
      | true => exact absurd (.inl hx) hb
      | false => rfl, by omega⟩

def rdPair (L : List UInt8) (x : RS) : Pair × RS := (⟨⟨(tText L 1 64 x).1.toArray⟩, ⟨(tText L 0 128 (tText L 1 64 x).2).1.toArray⟩⟩, (tText L 0 128 (tText L 1 64 x).2).2)
theorem rdPair_l (L : List UInt8) (x : RS) (h : (rdPair L x).2.bad = false) : x.bad = false ∧ (rdPair L x).2.l.length ≤ x.l.length + 212 := by
  have h1 := tText_l L 0 128 _ (by omega) h
  have h2 := tText_l L 1 64 x (by omega) h1.1
  refine ⟨h2.1, ?_⟩
  show (tText L 0 128 (tText L 1 64 x).2).2.l.length ≤ _
  omega
theorem tInt_in (L : List UInt8) (lo hi : Int) (x : RS) : In64 (tInt L lo hi x).1 := by
  unfold tInt
  split
  · unfold In64; exact ⟨by show (_:Int) ≤ 0; omega, by show (0:Int) < _; omega⟩
  · exact (takeI_in L x.p).1
/-- what TakeLeaf reads -/
def rdLeaf (L : List UInt8) : RS × List Pair :=
  rdList (rdPair L) (tInt L 0 64 ⟨[0x4c], false, 1⟩).1.toNat (tInt L 0 64 ⟨[0x4c], false, 1⟩).2 []
def okLeaf (L : List UInt8) : Bool := wholeB L ((rdLeaf L).1.ask (rises ((rdLeaf L).2.map (·.key))))
def outLeaf (L : List UInt8) : List Pair := if okLeaf L then (rdLeaf L).2 else []
def errV (ok : Bool) : Value := .int .i64 (if ok then 0 else 81)

set_option maxRecDepth 100000 in
theorem pair_t : SliceT Tryd.prog 22 48 2 32 := ⟨Tryd.underlying22, by decide, _, .agg #[.string ByteArray.empty, .string ByteArray.empty], rfl, rfl, rfl, rfl, rfl⟩

set_option maxRecDepth 100000 in
set_option maxHeartbeats 1000000 in
theorem takeLeaf_calls (s : ByteArray) (w : World) (hs : s.size ≤ 100000000) :
    Calls Tryd.prog 66 #[.string s] w fun e w' => ∃ v, e = .returned (.tuple #[v, errV (okLeaf s.data.toList)]) ∧ w'.ownsRow w.heap.size 48 2 v (outLeaf s.data.toList).length ((outLeaf s.data.toList).flatMap kc) ∧ Mod (fun _ => False) w w' := by
  have hL : s.data.toList.length ≤ 100000000 := by simpa using hs
  have H0 := Lib.hid (reads_rd s 76 w hs)
  clear hs
  generalize s.data.toList = L at *
  go_enter Tryd.func66, Tryd.ntmps66
  go_wp2_with fail
  refine H0.out.mono ?_
  rintro e w1 ⟨b, rfl, h1⟩
  have H1 := Lib.hid h1
  clear h1 H0
  go_wp2_with fail
  refine (int_rd H1.out 0 64 (fun _ => by simp) hL).mono ?_
  rintro e w2 ⟨rfl, h2, _⟩
  have hn := tInt_l L 0 64 ⟨[0x4c], false, 1⟩
  have hdef : rdLeaf L = rdList (rdPair L) (tInt L 0 64 ⟨[0x4c], false, 1⟩).1.toNat (tInt L 0 64 ⟨[0x4c], false, 1⟩).2 [] := rfl
  have hin : In64 (tInt L 0 64 ⟨[0x4c], false, 1⟩).1 := tInt_in L 0 64 _
  generalize (tInt L 0 64 ⟨[0x4c], false, 1⟩).1 = n at *
  generalize (tInt L 0 64 ⟨[0x4c], false, 1⟩).2 = x1 at *
  have HDEF := Lib.hid hdef
  have HN := Lib.hid hn
  have H2 := Lib.hid h2
  unfold In64 at hin
  clear hdef hn h2 H1
  have hv0 : w2.ownsRow w.heap.size 48 2 (.slice none 0 0) ([] : List Pair).length (([] : List Pair).flatMap kc) := World.ownsRow_nil _ _ _ _
  have HV0 := Lib.hid hv0
  clear hv0
  go_wp2_with fail
  go_loopw [5, 6] (fun v m wr => ∃ (z : Int) (x : RS) (l : List Pair), m = .int .i64 z ∧ (-9223372036854775808 ≤ z ∧ z ≤ 9223372036854775807) ∧ (x.bad = false → (l.length : Int) + z ≤ 64 ∧ x.l.length ≤ 100 + 212 * l.length) ∧ l.length ≤ 64 ∧
    Hid (rdLeaf L = rdList (rdPair L) z.toNat x l) ∧ Hid (Rd w b L x wr) ∧ Hid (wr.ownsRow w.heap.size 48 2 v l.length (l.flatMap kc))) (fun _ m _ => (intOf m).toNat)
  case atStart =>
    refine ⟨n, x1, [], by go_num, ⟨by omega, by omega⟩, fun hb => ?_, by simp, HDEF, H2, HV0⟩
    have h := HN.out hb
    have h1 := h.2.1
    simp only [List.length_cons, List.length_nil] at h1 ⊢
    omega
  case round =>
    obtain ⟨z, x, l, rfl, hz, hx, hl, HD, HR, HV⟩ := hrel
    have c1 := HR.out.cell1
    by_cases hb : x.bad = true
    · have HD2 : Hid (rdLeaf L = (x, l)) := Lib.hid (by rw [HD.out, rdList_stop _ _ _ _ (.inr hb)])
      rw [hb] at c1
      clear hx HD hb
      by_cases i1 : 0 < z
      ·
        obtain ⟨A, cp, rfl, _, hcl, _, _⟩ := own_cells HV.out
        have hab : ∀ a, A = some a → l ≠ [] → a.block ≠ b := by
          intro a ha hne hab
          obtain ⟨cs, hcs⟩ := HR.out.has
          exact has_ne hcs (own_row HV.out (k := a.block) (by rw [ha]; rfl)) (by decide) hab
        have HAB := Lib.hid hab
        have HCL := Lib.hid hcl
        clear hab hcl
        go_wp2_with fail
        refine (rising_rd HR.out A cp l HCL.out HAB.out (by omega)).mono ?_
        rintro e w3 ⟨rfl, h3, hm3⟩
        have HV3 := Lib.hid (hm3.keepOwn HV.out (by decide) (fun k hk hkb => by
          obtain ⟨cs, hcs⟩ := HR.out.has
          exact has_ne hcs (own_row HV.out hk) (by decide) hkb))
        have hW := whole_rd h3
        have hok : okLeaf L = wholeB L (x.ask (rises (l.map (·.key)))) := by unfold okLeaf; rw [HD2.out]
        rw [← hok] at hW
        have HW := Lib.hid hW
        have HM3 := Lib.hid h3.mod
        clear hW hok h3 hm3
        go_wp2_with fail
        cases hk : okLeaf L with
        | true =>
          have HOK := Lib.hid hk
          rw [hk] at HW
          clear hk
          refine HW.out.mono ?_
          rintro e w4 ⟨rfl, hm4⟩
          have HV4 := Lib.hid (own_keep HV3.out hm4 (fun _ _ _ h => h))
          have HM4 := Lib.hid (Mod.trans HM3.out hm4 (fun _ _ h => h))
          clear hm4
          go_wp2_with fail
          refine bodyPost_ret (v := .tuple #[.slice A l.length cp, .int .i64 0]) (by simp [results, Tryd.results66, go_sem]) rfl ⟨_, by rw [HOK.out]; rfl, ?_, HM4.out⟩
          unfold outLeaf
          rw [if_pos HOK.out, HD2.out]
          exact HV4.out
        | false =>
          have HOK := Lib.hid hk
          rw [hk] at HW
          clear hk
          refine HW.out.mono ?_
          rintro e w4 ⟨rfl, hm4⟩
          have HM4 := Lib.hid (Mod.trans HM3.out hm4 (fun _ _ h => h))
          clear hm4
          go_wp2_with fail
          refine bodyPost_ret (v := .tuple #[.slice none 0 0, .int .i64 81]) (by simp [results, Tryd.results66, go_sem]) rfl ⟨_, by rw [HOK.out]; rfl, ?_, HM4.out⟩
          unfold outLeaf
          rw [if_neg (by rw [HOK.out]; decide)]
          exact World.ownsRow_nil _ _ _ _
      ·
        obtain ⟨A, cp, rfl, _, hcl, _, _⟩ := own_cells HV.out
        have hab : ∀ a, A = some a → l ≠ [] → a.block ≠ b := by
          intro a ha hne hab
          obtain ⟨cs, hcs⟩ := HR.out.has
          exact has_ne hcs (own_row HV.out (k := a.block) (by rw [ha]; rfl)) (by decide) hab
        have HAB := Lib.hid hab
        have HCL := Lib.hid hcl
        clear hab hcl
        go_wp2_with fail
        refine (rising_rd HR.out A cp l HCL.out HAB.out (by omega)).mono ?_
        rintro e w3 ⟨rfl, h3, hm3⟩
        have HV3 := Lib.hid (hm3.keepOwn HV.out (by decide) (fun k hk hkb => by
          obtain ⟨cs, hcs⟩ := HR.out.has
          exact has_ne hcs (own_row HV.out hk) (by decide) hkb))
        have hW := whole_rd h3
        have hok : okLeaf L = wholeB L (x.ask (rises (l.map (·.key)))) := by unfold okLeaf; rw [HD2.out]
        rw [← hok] at hW
        have HW := Lib.hid hW
        have HM3 := Lib.hid h3.mod
        clear hW hok h3 hm3
        go_wp2_with fail
        cases hk : okLeaf L with
        | true =>
          have HOK := Lib.hid hk
          rw [hk] at HW
          clear hk
          refine HW.out.mono ?_
          rintro e w4 ⟨rfl, hm4⟩
          have HV4 := Lib.hid (own_keep HV3.out hm4 (fun _ _ _ h => h))
          have HM4 := Lib.hid (Mod.trans HM3.out hm4 (fun _ _ h => h))
          clear hm4
          go_wp2_with fail
          refine bodyPost_ret (v := .tuple #[.slice A l.length cp, .int .i64 0]) (by simp [results, Tryd.results66, go_sem]) rfl ⟨_, by rw [HOK.out]; rfl, ?_, HM4.out⟩
          unfold outLeaf
          rw [if_pos HOK.out, HD2.out]
          exact HV4.out
        | false =>
          have HOK := Lib.hid hk
          rw [hk] at HW
          clear hk
          refine HW.out.mono ?_
          rintro e w4 ⟨rfl, hm4⟩
          have HM4 := Lib.hid (Mod.trans HM3.out hm4 (fun _ _ h => h))
          clear hm4
          go_wp2_with fail
          refine bodyPost_ret (v := .tuple #[.slice none 0 0, .int .i64 81]) (by simp [results, Tryd.results66, go_sem]) rfl ⟨_, by rw [HOK.out]; rfl, ?_, HM4.out⟩
          unfold outLeaf
          rw [if_neg (by rw [HOK.out]; decide)]
          exact World.ownsRow_nil _ _ _ _
    · have hb0 : x.bad = false := by simpa using hb
      rw [hb0] at c1
      by_cases i1 : 0 < z
      · have i2 : 1 ≤ z := by omega
        obtain ⟨hx1, hx2⟩ := hx hb0
        have hstep : rdLeaf L = rdList (rdPair L) (z - 1).toNat (rdPair L x).2 (l ++ [(rdPair L x).1]) := by
          rw [HD.out, show z.toNat = (z - 1).toNat + 1 by omega, rdList_go _ _ _ _ hb0]
        have HST := Lib.hid hstep
        have hpl := rdPair_l L x
        have HPL := Lib.hid hpl
        have ht1 := tText_l L 1 64 x (by omega)
        have HT1 := Lib.hid ht1
        clear hb hx hstep HD hpl ht1
        go_wp2_with fail
        refine (text_rd HR.out 1 64 (fun _ => by omega) hL).mono ?_
        rintro e w3 ⟨rfl, h3, hm3⟩
        have HV3 := Lib.hid (hm3.keepOwn HV.out (by decide) (fun k hk hkb => by
          obtain ⟨cs, hcs⟩ := HR.out.has
          exact has_ne hcs (own_row HV.out hk) (by decide) hkb))
        have H3 := Lib.hid h3
        clear h3 hm3
        go_wp2_with fail
        refine (text_rd H3.out 0 128 (fun h => by have := HT1.out h; omega) hL).mono ?_
        rintro e w4 ⟨rfl, h4, hm4⟩
        have HV4 := Lib.hid (hm4.keepOwn HV3.out (by decide) (fun k hk hkb => by
          obtain ⟨cs, hcs⟩ := H3.out.has
          exact has_ne hcs (own_row HV3.out hk) (by decide) hkb))
        have H4 := Lib.hid h4
        clear h4 hm4
        generalize hP : (rdPair L x).1 = P at *
        have e1 : (⟨(tText L 1 64 x).1.toArray⟩ : ByteArray) = P.key := by rw [← hP]; rfl
        have e2 : (⟨(tText L 0 128 (tText L 1 64 x).2).1.toArray⟩ : ByteArray) = P.val := by rw [← hP]; rfl
        have e3 : (tText L 0 128 (tText L 1 64 x).2).2 = (rdPair L x).2 := rfl
        rw [e1, e2]
        rw [e3] at H4
        generalize (rdPair L x).2 = x4 at *
        have hva := HV4.out.alloc (.cells #[.string P.key, .string P.val] 48)
        have HVA := Lib.hid hva
        have hna := cells_new w4 [.string P.key, .string P.val] 48
        have HNA := Lib.hid hna
        have hbs : w.heap.size ≤ w4.heap.size := H4.out.mod.size
        clear hva hna hP e1 e2 e3 HV3 H3 HV4 HT1
        go_wp2_with (first
          | (at_builtin
             go_must (refine app (.tmp 23) (.tmp 29) pair_t w.heap.size u5 l.length (l.flatMap kc) HVA.out ⟨w4.heap.size, 0, none⟩ 1 1 [.string P.key, .string P.val] rfl rfl rfl rfl rfl HNA.out (by intro u hu; simp at hu; rcases hu with rfl | rfl <;> rfl) (by omega) (by unfold maxLen; omega) (by simp; omega) ?_; intro v5 w5 ho hm5)
             have hRA := H4.out.alloc (.cells #[.string P.key, .string P.val] 48)
             obtain ⟨cs, hcs⟩ := hRA.has
             have h5 : Rd w b L x4 w5 := hRA.keep hm5 (fun hs => has_ne hcs (own_row HVA.out hs.2) (by decide) rfl) (fun k hk hs => byteRow_ne hk (own_row HVA.out hs.2) (by decide)) (fun k hk hs => by omega)
             have hv5 : w5.ownsRow w.heap.size 48 2 v5 (l ++ [P]).length ((l ++ [P]).flatMap kc) := by rw [List.length_append, List.flatMap_append]; exact ho
             have H5 := Lib.hid h5
             have HV5 := Lib.hid hv5
             clear ho hm5 hRA hcs h5 hv5 HVA HNA))
        have w1 : IntKind.i64.wrap (z - 1) = z - 1 := by rw [IntKind.wrap_i64]; omega
        go_wp2_with fail
        go_roundw
        case rel =>
          refine ⟨z - 1, x4, l ++ [P], rfl, by omega, fun h => ?_, by simp; omega, HST, H5, HV5⟩
          have := (HPL.out h).2
          rw [List.length_append, List.length_singleton]
          omega
        case measure => simp [intOf]; omega
      · have HD2 : Hid (rdLeaf L = (x, l)) := Lib.hid (by rw [HD.out, rdList_stop _ _ _ _ (.inl (by omega))])
        clear hx HD hb hb0
        obtain ⟨A, cp, rfl, _, hcl, _, _⟩ := own_cells HV.out
        have hab : ∀ a, A = some a → l ≠ [] → a.block ≠ b := by
          intro a ha hne hab
          obtain ⟨cs, hcs⟩ := HR.out.has
          exact has_ne hcs (own_row HV.out (k := a.block) (by rw [ha]; rfl)) (by decide) hab
        have HAB := Lib.hid hab
        have HCL := Lib.hid hcl
        clear hab hcl
        go_wp2_with fail
        refine (rising_rd HR.out A cp l HCL.out HAB.out (by omega)).mono ?_
        rintro e w3 ⟨rfl, h3, hm3⟩
        have HV3 := Lib.hid (hm3.keepOwn HV.out (by decide) (fun k hk hkb => by
          obtain ⟨cs, hcs⟩ := HR.out.has
          exact has_ne hcs (own_row HV.out hk) (by decide) hkb))
        have hW := whole_rd h3
        have hok : okLeaf L = wholeB L (x.ask (rises (l.map (·.key)))) := by unfold okLeaf; rw [HD2.out]
        rw [← hok] at hW
        have HW := Lib.hid hW
        have HM3 := Lib.hid h3.mod
        clear hW hok h3 hm3
        go_wp2_with fail
        cases hk : okLeaf L with
        | true =>
          have HOK := Lib.hid hk
          rw [hk] at HW
          clear hk
          refine HW.out.mono ?_
          rintro e w4 ⟨rfl, hm4⟩
          have HV4 := Lib.hid (own_keep HV3.out hm4 (fun _ _ _ h => h))
          have HM4 := Lib.hid (Mod.trans HM3.out hm4 (fun _ _ h => h))
          clear hm4
          go_wp2_with fail
          refine bodyPost_ret (v := .tuple #[.slice A l.length cp, .int .i64 0]) (by simp [results, Tryd.results66, go_sem]) rfl ⟨_, by rw [HOK.out]; rfl, ?_, HM4.out⟩
          unfold outLeaf
          rw [if_pos HOK.out, HD2.out]
          exact HV4.out
        | false =>
          have HOK := Lib.hid hk
          rw [hk] at HW
          clear hk
          refine HW.out.mono ?_
          rintro e w4 ⟨rfl, hm4⟩
          have HM4 := Lib.hid (Mod.trans HM3.out hm4 (fun _ _ h => h))
          clear hm4
          go_wp2_with fail
          refine bodyPost_ret (v := .tuple #[.slice none 0 0, .int .i64 81]) (by simp [results, Tryd.results66, go_sem]) rfl ⟨_, by rw [HOK.out]; rfl, ?_, HM4.out⟩
          unfold outLeaf
          rw [if_neg (by rw [HOK.out]; decide)]
          exact World.ownsRow_nil _ _ _ _
end Obj
end Go.Proofs.YtpoljpjcmigobaaDoor
/- The walk of object's TakeFan. -/
namespace Go.Proofs.YtpoljpjcmigobaaDoor
set_option linter.unusedVariables false
set_option linter.unusedSimpArgs false
open Go.RowKit K Wire
namespace Obj

/-- what may turn within a region that reads one thing -/
def SR (b : Nat) (v : Value) (wr : World) (k : Nat) : Prop := k = b ∨ ByteRow wr k ∨ v.ownBlock = some k ∨ wr.heap.size ≤ k
theorem ModB.inS {base b : Nat} {v : Value} {wr wc w' : World} (hA : ModB base b wr wc) (h : ModB base b wc w') : Mod (SR b v wr) wc w' := h.mono fun k hk hs => by
  rcases hs with rfl | ⟨hb, cur, fz, hr⟩
  · exact .inl rfl
  · by_cases hlt : k < wr.heap.size
    · by_cases hS : k = b ∨ (base ≤ k ∧ ByteRow wr k)
      · rcases hS with hS | hS
        · exact .inl hS
        · exact .inr (.inl hS.2)
      · rw [hA.block k hlt hS] at hr
        exact .inr (.inl ⟨cur, fz, hr⟩)
    · exact .inr (.inr (.inr (by omega)))
theorem not_SR {b g T e size n : Nat} {v : Value} {base : Nat} {xs cs : List Value} {wr : World} (hg : Has wr g cs T) (hb : g ≠ b) (hT : T ≠ 5) (hv : wr.ownsRow base e size v n xs) (he : T ≠ e) : ¬ SR b v wr g := by
  rintro (h | ⟨cur, fz, h⟩ | h | h)
  · exact hb h
  · exact has_ne hg ⟨cur, fz, h⟩ hT rfl
  · exact has_ne hg (own_row hv h) he rfl
  · have := hg.lt; omega

def rdPart (L : List UInt8) (x : RS) : Part × RS := (⟨⟨(tId L x).1.toArray⟩, (tInt L 1 262144 (tId L x).2).1⟩, (tInt L 1 262144 (tId L x).2).2)
theorem rdPart_l (L : List UInt8) (x : RS) (h : (rdPart L x).2.bad = false) : x.bad = false ∧ (rdPart L x).2.l.length ≤ x.l.length + 42 := by
  have h1 := tInt_l L 1 262144 _ h
  have h2 := tId_l L x h1.1
  refine ⟨h2.1, ?_⟩
  show (tInt L 1 262144 (tId L x).2).2.l.length ≤ _
  omega
/-- what TakeFan reads -/
def fanL (L : List UInt8) : Int := (tInt L 1 20 ⟨[0x46], false, 1⟩).1
def rdFan (L : List UInt8) : RS × List Part :=
  rdList (rdPart L) (tInt L 1 32 (tInt L 1 20 ⟨[0x46], false, 1⟩).2).1.toNat (tInt L 1 32 (tInt L 1 20 ⟨[0x46], false, 1⟩).2).2 []
def okFan (L : List UInt8) : Bool := wholeB L ((rdFan L).1.ask (decide (capSum 262144 ((rdFan L).2.map (·.size)) ≤ 262144)))
def outFan (L : List UInt8) : Int × List Part := if okFan L then (fanL L, (rdFan L).2) else (0, [])

end Obj
end Go.Proofs.YtpoljpjcmigobaaDoor
/- The walk of object's TakeBranch. -/
namespace Go.Proofs.YtpoljpjcmigobaaDoor
set_option linter.unusedVariables false
set_option linter.unusedSimpArgs false
open Go.RowKit K Wire
namespace Obj

def rdLink (L : List UInt8) (x : RS) : Link × RS := (⟨⟨(tText L 1 64 x).1.toArray⟩, ⟨(tId L (tText L 1 64 x).2).1.toArray⟩, (tInt L 1 4096 (tId L (tText L 1 64 x).2).2).1⟩, (tInt L 1 4096 (tId L (tText L 1 64 x).2).2).2)
theorem rdLink_l (L : List UInt8) (x : RS) (h : (rdLink L x).2.bad = false) : x.bad = false ∧ (rdLink L x).2.l.length ≤ x.l.length + 116 := by
  have h1 := tInt_l L 1 4096 _ h
  have h2 := tId_l L _ h1.1
  have h3 := tText_l L 1 64 x (by omega) h2.1
  refine ⟨h3.1, ?_⟩
  show (tInt L 1 4096 (tId L (tText L 1 64 x).2).2).2.l.length ≤ _
  omega
/-- what TakeBranch reads -/
def branchL (L : List UInt8) : Int := (tInt L 1 20 ⟨[0x42], false, 1⟩).1
def rdBranch (L : List UInt8) : RS × List Link :=
  rdList (rdLink L) (tInt L 1 64 (tInt L 1 20 ⟨[0x42], false, 1⟩).2).1.toNat (tInt L 1 64 (tInt L 1 20 ⟨[0x42], false, 1⟩).2).2 []
def okBranch (L : List UInt8) : Bool := wholeB L (((rdBranch L).1.ask (rises ((rdBranch L).2.map (·.last)))).ask (decide (capSum 4096 ((rdBranch L).2.map (·.many)) ≤ 4096)))
def outBranch (L : List UInt8) : Int × List Link := if okBranch L then (branchL L, (rdBranch L).2) else (0, [])

set_option maxRecDepth 100000 in
theorem link_t : SliceT Tryd.prog 62 67 3 40 := ⟨Tryd.underlying62, by decide, _, .agg #[.string ByteArray.empty, .string ByteArray.empty, .int .i64 0], rfl, rfl, rfl, rfl, rfl⟩

set_option maxRecDepth 100000 in
set_option maxHeartbeats 2000000 in
theorem takeBranch_calls (s : ByteArray) (w : World) (hs : s.size ≤ 100000000) :
    Calls Tryd.prog 67 #[.string s] w fun e w' => ∃ v, e = .returned (.tuple #[.agg #[.int .i64 (outBranch s.data.toList).1, v], errV (okBranch s.data.toList)]) ∧ w'.ownsRow w.heap.size 67 3 v (outBranch s.data.toList).2.length ((outBranch s.data.toList).2.flatMap lc) ∧ Mod (fun _ => False) w w' := by
  have hL : s.data.toList.length ≤ 100000000 := by simpa using hs
  have H0 := Lib.hid (reads_rd s 66 (w.alloc (.cells #[.int .i64 0, .slice none 0 0] 72)) hs)
  clear hs
  generalize s.data.toList = L at *
  go_enter Tryd.func67, Tryd.ntmps67
  go_wp2_with fail
  refine H0.out.mono ?_
  rintro e w1 ⟨b, rfl, h1⟩
  have hR := Has.new w [.int .i64 0, .slice none 0 0] 72
  have hM0 := (Mod.refl (fun _ => False) w).alloc (.cells #[.int .i64 0, .slice none 0 0] 72)
  have hsz : w.heap.size + 1 = (w.alloc (.cells #[.int .i64 0, .slice none 0 0] 72)).heap.size := by simp
  clear H0
  generalize w.alloc (.cells #[.int .i64 0, .slice none 0 0] 72) = w0 at *
  have HR0 := Lib.hid hR
  have HM0 := Lib.hid hM0
  have HSZ := Lib.hid hsz
  have H1 := Lib.hid h1
  clear h1 hR hM0 hsz
  go_wp2_with fail
  refine (int_rd H1.out 1 20 (fun _ => by simp) hL).mono ?_
  rintro e w2 ⟨rfl, h2, _⟩
  have hn1 := tInt_l L 1 20 ⟨[0x42], false, 1⟩
  have hdef : rdBranch L = rdList (rdLink L) (tInt L 1 64 (tInt L 1 20 ⟨[0x42], false, 1⟩).2).1.toNat (tInt L 1 64 (tInt L 1 20 ⟨[0x42], false, 1⟩).2).2 [] := rfl
  have hlv : branchL L = (tInt L 1 20 ⟨[0x42], false, 1⟩).1 := rfl
  rw [← hlv] at *
  generalize (tInt L 1 20 ⟨[0x42], false, 1⟩).2 = xa at *
  have HN1 := Lib.hid hn1
  have HDEF := Lib.hid hdef
  have H2 := Lib.hid h2
  clear hn1 hdef h2 H1 hlv
  go_wp2_with fail
  refine (int_rd (H2.out.alloc _) 1 64 (fun h => by have := (HN1.out h).2.1; simp at this; omega) hL).mono ?_
  rintro e w3 ⟨rfl, h3, hm3⟩
  obtain ⟨cs2, hcs2⟩ := (H2.out.alloc (.cells #[.int .i64 (branchL L), .slice none 0 0] 72)).has
  have hgb : w2.heap.size ≠ b := by
    obtain ⟨cs2, hcs2⟩ := H2.out.has
    have := hcs2.lt; omega
  have HGB := Lib.hid hgb
  have HGZ := Lib.hid H2.out.mod.size
  have hG3 := hm3.has (Has.new w2 [.int .i64 (branchL L), .slice none 0 0] 72) (by decide) hgb
  have HG3 := Lib.hid hG3
  have hn := tInt_l L 1 64 xa
  have hin : In64 (tInt L 1 64 xa).1 := tInt_in L 1 64 _
  generalize (tInt L 1 64 xa).1 = n at *
  generalize (tInt L 1 64 xa).2 = x1 at *
  have HN : Hid (x1.bad = false → x1.l.length ≤ 100 ∧ 1 ≤ n ∧ n ≤ 64) := Lib.hid (fun h => by
    have h1 := hn h
    have h2 := (HN1.out h1.1).2.1
    simp only [List.length_cons, List.length_nil] at h2
    omega)
  have H3 := Lib.hid h3
  unfold In64 at hin
  have hv0 : w3.ownsRow w0.heap.size 67 3 (.slice none 0 0) ([] : List Link).length (([] : List Link).flatMap lc) := World.ownsRow_nil _ _ _ _
  have HV0 := Lib.hid hv0
  clear hv0 hn h3 hm3 hcs2 hgb hG3 HN1 H2
  go_wp2_with fail
  go_loopw [6] (fun m wr => ∃ (z : Int) (x : RS) (l : List Link) (v : Value), m = .int .i64 z ∧ (-9223372036854775808 ≤ z ∧ z ≤ 9223372036854775807) ∧ (x.bad = false → (l.length : Int) + z ≤ 64 ∧ x.l.length ≤ 100 + 116 * l.length) ∧ l.length ≤ 64 ∧
    Hid (rdBranch L = rdList (rdLink L) z.toNat x l) ∧ Hid (Rd w0 b L x wr) ∧ Hid (wr.ownsRow w0.heap.size 67 3 v l.length (l.flatMap lc)) ∧ Hid (Has wr w2.heap.size [.int .i64 (branchL L), v] 72) ∧ Hid (∀ p ∈ l, In64 p.many)) (fun m _ => (intOf m).toNat)
  case atStart =>
    refine ⟨n, x1, [], .slice none 0 0, by go_num, ⟨by omega, by omega⟩, fun hb => ?_, by simp, HDEF, H3, HV0, HG3, Lib.hid (by simp)⟩
    have h := HN.out hb
    simp only [List.length_nil]
    omega
  case round =>
    obtain ⟨z, x, l, v, rfl, hz, hx, hl, HD, HR, HV, HG, HIN⟩ := hrel
    have c1 := HR.out.cell1
    by_cases hb : x.bad = true
    · have HD2 : Hid (rdBranch L = (x, l)) := Lib.hid (by rw [HD.out, rdList_stop _ _ _ _ (.inr hb)])
      rw [hb] at c1
      clear hx HD hb
      by_cases i1 : 0 < z
      ·
        obtain ⟨A, cp, rfl, _, hcl, _, _⟩ := own_cells HV.out
        have HCL := Lib.hid hcl
        clear hcl
        have x1 := HG.out.cell (o := 1) rfl
        have hgl := HG.out.lt
        have fv := fun (w' : World) (h : Mod (SR b (.slice A l.length cp) wr) wr.drew w') => (h.cell (p := ⟨w2.heap.size, 1, none⟩) hgl (not_SR HG.out HGB.out (by decide) HV.out (by decide))).trans x1
        have HRD := Lib.hid (HR.out.newer (Mod.drew (Mod.refl _ _)))
        have hab : ∀ a, A = some a → l ≠ [] → a.block ≠ b := by
          intro a ha hne hab
          obtain ⟨cs, hcs⟩ := HR.out.has
          exact has_ne hcs (own_row HV.out (k := a.block) (by rw [ha]; rfl)) (by decide) hab
        have HAB := Lib.hid hab
        clear hab
        go_wp2_with fail
        refine region_mS (SR b (.slice A l.length cp) wr) (by kernel_rfl) ?_
        simp only [List.length_cons, List.length_nil, List.replicate]
        refine take0S (v := ?v1) (oi := ?o1) 0 ?hi1 (by kernel_rfl) (by kernel_rfl) (by kernel_rfl) ?hq1 ?hy1 ?_
        case hi1 => (simp only [List.getElem?_toArray, List.getElem?_cons_zero, List.getElem?_cons_succ]; rfl)
        case hq1 => exact fun _ _ _ h => h
        case hy1 => first | (refine ry_notS ?_; rfl) | (refine ry_runS (by rfl) (fun w' hw' => ?_); go_simp; try rfl)
        simp only [Act.put, List.setIfInBounds_toArray, List.set_cons_zero, List.set_cons_succ]
        refine take0S (v := ?v2) (oi := ?o2) 1 ?hi2 (by kernel_rfl) (by kernel_rfl) (by kernel_rfl) ?hq2 ?hy2 ?_
        case hi2 => (simp only [List.getElem?_toArray, List.getElem?_cons_zero, List.getElem?_cons_succ]; rfl)
        case hq2 => exact fun _ _ _ h => h
        case hy2 => first | (refine ry_notS ?_; rfl) | (refine ry_runS (by rfl) (fun w' hw' => ?_); go_simp; try rfl)
        simp only [Act.put, List.setIfInBounds_toArray, List.set_cons_zero, List.set_cons_succ]
        refine take0S (v := ?v3) (oi := ?o3) 2 ?hi3 (by kernel_rfl) (by kernel_rfl) (by kernel_rfl) ?hq3 ?hy3 ?_
        case hi3 => (simp only [List.getElem?_toArray, List.getElem?_cons_zero, List.getElem?_cons_succ]; rfl)
        case hq3 => exact fun _ _ _ h => h
        case hy3 => first | (refine ry_notS ?_; rfl) | (refine ry_runS (by rfl) (fun w' hw' => ?_); go_simp; try rfl)
        simp only [Act.put, List.setIfInBounds_toArray, List.set_cons_zero, List.set_cons_succ]
        refine take0S (v := ?v4) (oi := ?o4) 3 ?hi4 (by kernel_rfl) (by kernel_rfl) (by kernel_rfl) ?hq4 ?hy4 ?_
        case hi4 => (simp only [List.getElem?_toArray, List.getElem?_cons_zero, List.getElem?_cons_succ]; rfl)
        case hq4 => exact fun _ _ _ h => h
        case hy4 => first | (refine ry_notS ?_; rfl) | (refine ry_runS (by rfl) (fun w' hw' => ?_); go_simp; try rfl)
        simp only [Act.put, List.setIfInBounds_toArray, List.set_cons_zero, List.set_cons_succ]
        refine take0S (v := ?v5) (oi := ?o5) 4 ?hi5 (by kernel_rfl) (by kernel_rfl) (by kernel_rfl) ?hq5 ?hy5 ?_
        case hi5 => (simp only [List.getElem?_toArray, List.getElem?_cons_zero, List.getElem?_cons_succ]; rfl)
        case hq5 => exact fun _ _ _ h => h
        case hy5 => first | (refine ry_notS ?_; rfl) | (refine ry_runS (by rfl) (fun w' hw' => ?_); go_simp; try rfl)
        simp only [Act.put, List.setIfInBounds_toArray, List.set_cons_zero, List.set_cons_succ]
        refine step0S (o := ?o6) 5 (by kernel_rfl) ?hi6 ?hw6 ?_
        case hi6 => (simp only [List.getElem?_toArray, List.getElem?_cons_zero, List.getElem?_cons_succ]; rfl)
        case hw6 => rfl
        go_simp
        refine (risingL_rd HRD.out A cp l HCL.out HAB.out (by omega)).mono ?_
        rintro e w5 ⟨rfl, h5, hm5⟩
        refine ⟨.inl (ModB.inS (Mod.drew (Mod.refl _ wr)) hm5), ?_⟩
        refine wpAnyM_done (by kernel_rfl) ?_
        have HV5 := Lib.hid (hm5.keepOwn HV.out (by decide) (fun k hk hkb => by
          obtain ⟨cs, hcs⟩ := HR.out.has
          exact has_ne hcs (own_row HV.out hk) (by decide) hkb))
        have hG5 := hm5.has HG.out (by decide) HGB.out
        have HG5 := Lib.hid hG5
        have x15 := hG5.cell (o := 1) rfl
        have hgl5 := hG5.lt
        have fv5 := fun (w' : World) (h : Mod (SR b (.slice A l.length cp) w5) w5.drew w') => (h.cell (p := ⟨w2.heap.size, 1, none⟩) hgl5 (not_SR HG5.out HGB.out (by decide) HV5.out (by decide))).trans x15
        have HRD5 := Lib.hid (h5.newer (Mod.drew (Mod.refl _ _)))
        have hcl5 : Cells w5 A (l.flatMap lc) := by
          obtain ⟨A9, c9, he9, _, hc9, _, _⟩ := own_cells HV5.out
          obtain ⟨rfl, _⟩ : A = A9 ∧ cp = c9 := by simpa using he9
          exact hc9
        have HCL5 := Lib.hid hcl5
        clear h5 hm5 hG5 fv x1 hgl hcl5
        go_wp2_with fail
        refine region_mS (SR b (.slice A l.length cp) w5) (by kernel_rfl) ?_
        simp only [List.length_cons, List.length_nil, List.replicate]
        refine take0S (v := ?v7) (oi := ?o7) 0 ?hi7 (by kernel_rfl) (by kernel_rfl) (by kernel_rfl) ?hq7 ?hy7 ?_
        case hi7 => (simp only [List.getElem?_toArray, List.getElem?_cons_zero, List.getElem?_cons_succ]; rfl)
        case hq7 => exact fun _ _ _ h => h
        case hy7 => first | (refine ry_notS ?_; rfl) | (refine ry_runS (by rfl) (fun w' hw' => ?_); go_simp; try rfl)
        simp only [Act.put, List.setIfInBounds_toArray, List.set_cons_zero, List.set_cons_succ]
        refine take0S (v := ?v8) (oi := ?o8) 1 ?hi8 (by kernel_rfl) (by kernel_rfl) (by kernel_rfl) ?hq8 ?hy8 ?_
        case hi8 => (simp only [List.getElem?_toArray, List.getElem?_cons_zero, List.getElem?_cons_succ]; rfl)
        case hq8 => exact fun _ _ _ h => h
        case hy8 => first | (refine ry_notS ?_; rfl) | (refine ry_runS (by rfl) (fun w' hw' => ?_); go_simp; try rfl)
        simp only [Act.put, List.setIfInBounds_toArray, List.set_cons_zero, List.set_cons_succ]
        refine take0S (v := ?v9) (oi := ?o9) 2 ?hi9 (by kernel_rfl) (by kernel_rfl) (by kernel_rfl) ?hq9 ?hy9 ?_
        case hi9 => (simp only [List.getElem?_toArray, List.getElem?_cons_zero, List.getElem?_cons_succ]; rfl)
        case hq9 => exact fun _ _ _ h => h
        case hy9 => first | (refine ry_notS ?_; rfl) | (refine ry_runS (by rfl) (fun w' hw' => ?_); go_simp; try rfl)
        simp only [Act.put, List.setIfInBounds_toArray, List.set_cons_zero, List.set_cons_succ]
        refine take0S (v := ?v10) (oi := ?o10) 3 ?hi10 (by kernel_rfl) (by kernel_rfl) (by kernel_rfl) ?hq10 ?hy10 ?_
        case hi10 => (simp only [List.getElem?_toArray, List.getElem?_cons_zero, List.getElem?_cons_succ]; rfl)
        case hq10 => exact fun _ _ _ h => h
        case hy10 => first | (refine ry_notS ?_; rfl) | (refine ry_runS (by rfl) (fun w' hw' => ?_); go_simp; try rfl)
        simp only [Act.put, List.setIfInBounds_toArray, List.set_cons_zero, List.set_cons_succ]
        refine take0S (v := ?v11) (oi := ?o11) 4 ?hi11 (by kernel_rfl) (by kernel_rfl) (by kernel_rfl) ?hq11 ?hy11 ?_
        case hi11 => (simp only [List.getElem?_toArray, List.getElem?_cons_zero, List.getElem?_cons_succ]; rfl)
        case hq11 => exact fun _ _ _ h => h
        case hy11 => first | (refine ry_notS ?_; rfl) | (refine ry_runS (by rfl) (fun w' hw' => ?_); go_simp; try rfl)
        simp only [Act.put, List.setIfInBounds_toArray, List.set_cons_zero, List.set_cons_succ]
        refine step0S (o := ?o12) 5 (by kernel_rfl) ?hi12 ?hw12 ?_
        case hi12 => (simp only [List.getElem?_toArray, List.getElem?_cons_zero, List.getElem?_cons_succ]; rfl)
        case hw12 => rfl
        go_simp
        refine (sumL_rd HRD5.out A cp l 4096 HCL5.out (by omega) (by omega) HIN.out).mono ?_
        rintro e w6 ⟨rfl, h6, hm6⟩
        refine ⟨.inl (ModB.inS (Mod.drew (Mod.refl _ w5)) hm6), ?_⟩
        refine wpAnyM_done (by kernel_rfl) ?_
        have HV6 := Lib.hid (hm6.keepOwn HV5.out (by decide) (fun k hk hkb => by
          obtain ⟨cs, hcs⟩ := HRD5.out.has
          exact has_ne hcs (own_row HV5.out hk) (by decide) hkb))
        have hG6 := hm6.has HG5.out (by decide) HGB.out
        have hW := whole_rd h6
        have hok : okBranch L = wholeB L ((x.ask (rises (l.map (·.last)))).ask (decide (capSum 4096 (l.map (·.many)) ≤ 4096))) := by unfold okBranch; rw [HD2.out]
        rw [← hok] at hW
        have HW := Lib.hid hW
        have HM6 := Lib.hid h6.mod
        have HG6 := Lib.hid hG6
        clear hW hok h6 hm6 fv5 x15 hgl5 hG6
        go_wp2_with fail
        cases hk : okBranch L with
        | true =>
          have HOK := Lib.hid hk
          rw [hk] at HW
          clear hk
          refine HW.out.mono ?_
          rintro e w7 ⟨rfl, hm7⟩
          have HV7 := Lib.hid (own_keep HV6.out hm7 (fun _ _ _ h => h))
          have hG7 := HG6.out.keep hm7 (fun h => h)
          have z0 := hG7.cell (o := 0) rfl
          have z1 := hG7.cell (o := 1) rfl
          have hM7 := Mod.trans HM6.out hm7 (fun _ _ h => h)
          have hR7 := HR0.out.keep hM7 (fun h => h)
          have k0 := hR7.frozen 0
          have k1 := hR7.frozen 1
          have q0 := hR7.cell (o := 0) rfl
          have q1 := hR7.cell (o := 1) rfl
          have HR7 := Lib.hid hR7
          have HM7 := Lib.hid (Mod.trans HM0.out hM7 (fun _ _ h => h))
          clear hm7 hM7 hR7 hG7
          go_wp2_with fail
          refine bodyPost_ret (v := .tuple #[.agg #[.int .i64 (branchL L), .slice A l.length cp], .int .i64 0]) (by simp [results, Tryd.results67, go_sem, q0, q1]) rfl ⟨_, by rw [HOK.out]; unfold outBranch; rw [if_pos HOK.out]; rfl, ?_, ?_⟩
          · unfold outBranch
            rw [if_pos HOK.out, HD2.out]
            exact own_base (own_keep (S := fun k => k = w.heap.size) HV7.out (((Mod.refl (fun k => k = w.heap.size) _).set1 rfl _ _).set1 rfl _ _) (fun k hk _ h => by have := HSZ.out; omega)) (by have := HSZ.out; omega)
          · exact (HM7.out.setCell (p := ⟨w.heap.size, 0, none⟩) (.inr (by simp)) _).setCell (p := ⟨w.heap.size, 1, none⟩) (.inr (by simp)) _
        | false =>
          have HOK := Lib.hid hk
          rw [hk] at HW
          clear hk
          refine HW.out.mono ?_
          rintro e w7 ⟨rfl, hm7⟩
          have hM7 := Mod.trans HM6.out hm7 (fun _ _ h => h)
          have hR7 := HR0.out.keep hM7 (fun h => h)
          have k0 := hR7.frozen 0
          have k1 := hR7.frozen 1
          have q0 := hR7.cell (o := 0) rfl
          have q1 := hR7.cell (o := 1) rfl
          have HR7 := Lib.hid hR7
          have HM7 := Lib.hid (Mod.trans HM0.out hM7 (fun _ _ h => h))
          clear hm7 hM7 hR7
          go_wp2_with fail
          refine bodyPost_ret (v := .tuple #[.agg #[.int .i64 0, .slice none 0 0], .int .i64 81]) (by simp [results, Tryd.results67, go_sem, q0, q1]) rfl ⟨_, by rw [HOK.out]; unfold outBranch; rw [if_neg (by rw [HOK.out]; decide)]; rfl, ?_, ?_⟩
          · unfold outBranch
            rw [if_neg (by rw [HOK.out]; decide)]
            exact World.ownsRow_nil _ _ _ _
          · exact (HM7.out.setCell (p := ⟨w.heap.size, 0, none⟩) (.inr (by simp)) _).setCell (p := ⟨w.heap.size, 1, none⟩) (.inr (by simp)) _
      ·
        obtain ⟨A, cp, rfl, _, hcl, _, _⟩ := own_cells HV.out
        have HCL := Lib.hid hcl
        clear hcl
        have x1 := HG.out.cell (o := 1) rfl
        have hgl := HG.out.lt
        have fv := fun (w' : World) (h : Mod (SR b (.slice A l.length cp) wr) wr.drew w') => (h.cell (p := ⟨w2.heap.size, 1, none⟩) hgl (not_SR HG.out HGB.out (by decide) HV.out (by decide))).trans x1
        have HRD := Lib.hid (HR.out.newer (Mod.drew (Mod.refl _ _)))
        have hab : ∀ a, A = some a → l ≠ [] → a.block ≠ b := by
          intro a ha hne hab
          obtain ⟨cs, hcs⟩ := HR.out.has
          exact has_ne hcs (own_row HV.out (k := a.block) (by rw [ha]; rfl)) (by decide) hab
        have HAB := Lib.hid hab
        clear hab
        go_wp2_with fail
        refine region_mS (SR b (.slice A l.length cp) wr) (by kernel_rfl) ?_
        simp only [List.length_cons, List.length_nil, List.replicate]
        refine take0S (v := ?v13) (oi := ?o13) 0 ?hi13 (by kernel_rfl) (by kernel_rfl) (by kernel_rfl) ?hq13 ?hy13 ?_
        case hi13 => (simp only [List.getElem?_toArray, List.getElem?_cons_zero, List.getElem?_cons_succ]; rfl)
        case hq13 => exact fun _ _ _ h => h
        case hy13 => first | (refine ry_notS ?_; rfl) | (refine ry_runS (by rfl) (fun w' hw' => ?_); go_simp; try rfl)
        simp only [Act.put, List.setIfInBounds_toArray, List.set_cons_zero, List.set_cons_succ]
        refine take0S (v := ?v14) (oi := ?o14) 1 ?hi14 (by kernel_rfl) (by kernel_rfl) (by kernel_rfl) ?hq14 ?hy14 ?_
        case hi14 => (simp only [List.getElem?_toArray, List.getElem?_cons_zero, List.getElem?_cons_succ]; rfl)
        case hq14 => exact fun _ _ _ h => h
        case hy14 => first | (refine ry_notS ?_; rfl) | (refine ry_runS (by rfl) (fun w' hw' => ?_); go_simp; try rfl)
        simp only [Act.put, List.setIfInBounds_toArray, List.set_cons_zero, List.set_cons_succ]
        refine take0S (v := ?v15) (oi := ?o15) 2 ?hi15 (by kernel_rfl) (by kernel_rfl) (by kernel_rfl) ?hq15 ?hy15 ?_
        case hi15 => (simp only [List.getElem?_toArray, List.getElem?_cons_zero, List.getElem?_cons_succ]; rfl)
        case hq15 => exact fun _ _ _ h => h
        case hy15 => first | (refine ry_notS ?_; rfl) | (refine ry_runS (by rfl) (fun w' hw' => ?_); go_simp; try rfl)
        simp only [Act.put, List.setIfInBounds_toArray, List.set_cons_zero, List.set_cons_succ]
        refine take0S (v := ?v16) (oi := ?o16) 3 ?hi16 (by kernel_rfl) (by kernel_rfl) (by kernel_rfl) ?hq16 ?hy16 ?_
        case hi16 => (simp only [List.getElem?_toArray, List.getElem?_cons_zero, List.getElem?_cons_succ]; rfl)
        case hq16 => exact fun _ _ _ h => h
        case hy16 => first | (refine ry_notS ?_; rfl) | (refine ry_runS (by rfl) (fun w' hw' => ?_); go_simp; try rfl)
        simp only [Act.put, List.setIfInBounds_toArray, List.set_cons_zero, List.set_cons_succ]
        refine take0S (v := ?v17) (oi := ?o17) 4 ?hi17 (by kernel_rfl) (by kernel_rfl) (by kernel_rfl) ?hq17 ?hy17 ?_
        case hi17 => (simp only [List.getElem?_toArray, List.getElem?_cons_zero, List.getElem?_cons_succ]; rfl)
        case hq17 => exact fun _ _ _ h => h
        case hy17 => first | (refine ry_notS ?_; rfl) | (refine ry_runS (by rfl) (fun w' hw' => ?_); go_simp; try rfl)
        simp only [Act.put, List.setIfInBounds_toArray, List.set_cons_zero, List.set_cons_succ]
        refine step0S (o := ?o18) 5 (by kernel_rfl) ?hi18 ?hw18 ?_
        case hi18 => (simp only [List.getElem?_toArray, List.getElem?_cons_zero, List.getElem?_cons_succ]; rfl)
        case hw18 => rfl
        go_simp
        refine (risingL_rd HRD.out A cp l HCL.out HAB.out (by omega)).mono ?_
        rintro e w5 ⟨rfl, h5, hm5⟩
        refine ⟨.inl (ModB.inS (Mod.drew (Mod.refl _ wr)) hm5), ?_⟩
        refine wpAnyM_done (by kernel_rfl) ?_
        have HV5 := Lib.hid (hm5.keepOwn HV.out (by decide) (fun k hk hkb => by
          obtain ⟨cs, hcs⟩ := HR.out.has
          exact has_ne hcs (own_row HV.out hk) (by decide) hkb))
        have hG5 := hm5.has HG.out (by decide) HGB.out
        have HG5 := Lib.hid hG5
        have x15 := hG5.cell (o := 1) rfl
        have hgl5 := hG5.lt
        have fv5 := fun (w' : World) (h : Mod (SR b (.slice A l.length cp) w5) w5.drew w') => (h.cell (p := ⟨w2.heap.size, 1, none⟩) hgl5 (not_SR HG5.out HGB.out (by decide) HV5.out (by decide))).trans x15
        have HRD5 := Lib.hid (h5.newer (Mod.drew (Mod.refl _ _)))
        have hcl5 : Cells w5 A (l.flatMap lc) := by
          obtain ⟨A9, c9, he9, _, hc9, _, _⟩ := own_cells HV5.out
          obtain ⟨rfl, _⟩ : A = A9 ∧ cp = c9 := by simpa using he9
          exact hc9
        have HCL5 := Lib.hid hcl5
        clear h5 hm5 hG5 fv x1 hgl hcl5
        go_wp2_with fail
        refine region_mS (SR b (.slice A l.length cp) w5) (by kernel_rfl) ?_
        simp only [List.length_cons, List.length_nil, List.replicate]
        refine take0S (v := ?v19) (oi := ?o19) 0 ?hi19 (by kernel_rfl) (by kernel_rfl) (by kernel_rfl) ?hq19 ?hy19 ?_
        case hi19 => (simp only [List.getElem?_toArray, List.getElem?_cons_zero, List.getElem?_cons_succ]; rfl)
        case hq19 => exact fun _ _ _ h => h
        case hy19 => first | (refine ry_notS ?_; rfl) | (refine ry_runS (by rfl) (fun w' hw' => ?_); go_simp; try rfl)
        simp only [Act.put, List.setIfInBounds_toArray, List.set_cons_zero, List.set_cons_succ]
        refine take0S (v := ?v20) (oi := ?o20) 1 ?hi20 (by kernel_rfl) (by kernel_rfl) (by kernel_rfl) ?hq20 ?hy20 ?_
        case hi20 => (simp only [List.getElem?_toArray, List.getElem?_cons_zero, List.getElem?_cons_succ]; rfl)
        case hq20 => exact fun _ _ _ h => h
        case hy20 => first | (refine ry_notS ?_; rfl) | (refine ry_runS (by rfl) (fun w' hw' => ?_); go_simp; try rfl)
        simp only [Act.put, List.setIfInBounds_toArray, List.set_cons_zero, List.set_cons_succ]
        refine take0S (v := ?v21) (oi := ?o21) 2 ?hi21 (by kernel_rfl) (by kernel_rfl) (by kernel_rfl) ?hq21 ?hy21 ?_
        case hi21 => (simp only [List.getElem?_toArray, List.getElem?_cons_zero, List.getElem?_cons_succ]; rfl)
        case hq21 => exact fun _ _ _ h => h
        case hy21 => first | (refine ry_notS ?_; rfl) | (refine ry_runS (by rfl) (fun w' hw' => ?_); go_simp; try rfl)
        simp only [Act.put, List.setIfInBounds_toArray, List.set_cons_zero, List.set_cons_succ]
        refine take0S (v := ?v22) (oi := ?o22) 3 ?hi22 (by kernel_rfl) (by kernel_rfl) (by kernel_rfl) ?hq22 ?hy22 ?_
        case hi22 => (simp only [List.getElem?_toArray, List.getElem?_cons_zero, List.getElem?_cons_succ]; rfl)
        case hq22 => exact fun _ _ _ h => h
        case hy22 => first | (refine ry_notS ?_; rfl) | (refine ry_runS (by rfl) (fun w' hw' => ?_); go_simp; try rfl)
        simp only [Act.put, List.setIfInBounds_toArray, List.set_cons_zero, List.set_cons_succ]
        refine take0S (v := ?v23) (oi := ?o23) 4 ?hi23 (by kernel_rfl) (by kernel_rfl) (by kernel_rfl) ?hq23 ?hy23 ?_
        case hi23 => (simp only [List.getElem?_toArray, List.getElem?_cons_zero, List.getElem?_cons_succ]; rfl)
        case hq23 => exact fun _ _ _ h => h
        case hy23 => first | (refine ry_notS ?_; rfl) | (refine ry_runS (by rfl) (fun w' hw' => ?_); go_simp; try rfl)
        simp only [Act.put, List.setIfInBounds_toArray, List.set_cons_zero, List.set_cons_succ]
        refine step0S (o := ?o24) 5 (by kernel_rfl) ?hi24 ?hw24 ?_
        case hi24 => (simp only [List.getElem?_toArray, List.getElem?_cons_zero, List.getElem?_cons_succ]; rfl)
        case hw24 => rfl
        go_simp
        refine (sumL_rd HRD5.out A cp l 4096 HCL5.out (by omega) (by omega) HIN.out).mono ?_
        rintro e w6 ⟨rfl, h6, hm6⟩
        refine ⟨.inl (ModB.inS (Mod.drew (Mod.refl _ w5)) hm6), ?_⟩
        refine wpAnyM_done (by kernel_rfl) ?_
        have HV6 := Lib.hid (hm6.keepOwn HV5.out (by decide) (fun k hk hkb => by
          obtain ⟨cs, hcs⟩ := HRD5.out.has
          exact has_ne hcs (own_row HV5.out hk) (by decide) hkb))
        have hG6 := hm6.has HG5.out (by decide) HGB.out
        have hW := whole_rd h6
        have hok : okBranch L = wholeB L ((x.ask (rises (l.map (·.last)))).ask (decide (capSum 4096 (l.map (·.many)) ≤ 4096))) := by unfold okBranch; rw [HD2.out]
        rw [← hok] at hW
        have HW := Lib.hid hW
        have HM6 := Lib.hid h6.mod
        have HG6 := Lib.hid hG6
        clear hW hok h6 hm6 fv5 x15 hgl5 hG6
        go_wp2_with fail
        cases hk : okBranch L with
        | true =>
          have HOK := Lib.hid hk
          rw [hk] at HW
          clear hk
          refine HW.out.mono ?_
          rintro e w7 ⟨rfl, hm7⟩
          have HV7 := Lib.hid (own_keep HV6.out hm7 (fun _ _ _ h => h))
          have hG7 := HG6.out.keep hm7 (fun h => h)
          have z0 := hG7.cell (o := 0) rfl
          have z1 := hG7.cell (o := 1) rfl
          have hM7 := Mod.trans HM6.out hm7 (fun _ _ h => h)
          have hR7 := HR0.out.keep hM7 (fun h => h)
          have k0 := hR7.frozen 0
          have k1 := hR7.frozen 1
          have q0 := hR7.cell (o := 0) rfl
          have q1 := hR7.cell (o := 1) rfl
          have HR7 := Lib.hid hR7
          have HM7 := Lib.hid (Mod.trans HM0.out hM7 (fun _ _ h => h))
          clear hm7 hM7 hR7 hG7
          go_wp2_with fail
          refine bodyPost_ret (v := .tuple #[.agg #[.int .i64 (branchL L), .slice A l.length cp], .int .i64 0]) (by simp [results, Tryd.results67, go_sem, q0, q1]) rfl ⟨_, by rw [HOK.out]; unfold outBranch; rw [if_pos HOK.out]; rfl, ?_, ?_⟩
          · unfold outBranch
            rw [if_pos HOK.out, HD2.out]
            exact own_base (own_keep (S := fun k => k = w.heap.size) HV7.out (((Mod.refl (fun k => k = w.heap.size) _).set1 rfl _ _).set1 rfl _ _) (fun k hk _ h => by have := HSZ.out; omega)) (by have := HSZ.out; omega)
          · exact (HM7.out.setCell (p := ⟨w.heap.size, 0, none⟩) (.inr (by simp)) _).setCell (p := ⟨w.heap.size, 1, none⟩) (.inr (by simp)) _
        | false =>
          have HOK := Lib.hid hk
          rw [hk] at HW
          clear hk
          refine HW.out.mono ?_
          rintro e w7 ⟨rfl, hm7⟩
          have hM7 := Mod.trans HM6.out hm7 (fun _ _ h => h)
          have hR7 := HR0.out.keep hM7 (fun h => h)
          have k0 := hR7.frozen 0
          have k1 := hR7.frozen 1
          have q0 := hR7.cell (o := 0) rfl
          have q1 := hR7.cell (o := 1) rfl
          have HR7 := Lib.hid hR7
          have HM7 := Lib.hid (Mod.trans HM0.out hM7 (fun _ _ h => h))
          clear hm7 hM7 hR7
          go_wp2_with fail
          refine bodyPost_ret (v := .tuple #[.agg #[.int .i64 0, .slice none 0 0], .int .i64 81]) (by simp [results, Tryd.results67, go_sem, q0, q1]) rfl ⟨_, by rw [HOK.out]; unfold outBranch; rw [if_neg (by rw [HOK.out]; decide)]; rfl, ?_, ?_⟩
          · unfold outBranch
            rw [if_neg (by rw [HOK.out]; decide)]
            exact World.ownsRow_nil _ _ _ _
          · exact (HM7.out.setCell (p := ⟨w.heap.size, 0, none⟩) (.inr (by simp)) _).setCell (p := ⟨w.heap.size, 1, none⟩) (.inr (by simp)) _
    · have hb0 : x.bad = false := by simpa using hb
      rw [hb0] at c1
      by_cases i1 : 0 < z
      · have i2 : 1 ≤ z := by omega
        obtain ⟨hx1, hx2⟩ := hx hb0
        have hstep : rdBranch L = rdList (rdLink L) (z - 1).toNat (rdLink L x).2 (l ++ [(rdLink L x).1]) := by
          rw [HD.out, show z.toNat = (z - 1).toNat + 1 by omega, rdList_go _ _ _ _ hb0]
        have HST := Lib.hid hstep
        have HPL := Lib.hid (rdLink_l L x)
        have HT1 := Lib.hid (tText_l L 1 64 x (by omega))
        have HT2 := Lib.hid (tId_l L (tText L 1 64 x).2)
        have hin1 : In64 (rdLink L x).1.many := tInt_in L 1 4096 _
        have HIN1 := Lib.hid hin1
        clear hb hx hstep HD hin1
        obtain ⟨A, cp, rfl, _, hcl, _, _⟩ := own_cells HV.out
        clear hcl
        have x1 := HG.out.cell (o := 1) rfl
        have hgl := HG.out.lt
        have fv := fun (w' : World) (h : Mod (SR b (.slice A l.length cp) wr) wr.drew w') => (h.cell (p := ⟨w2.heap.size, 1, none⟩) hgl (not_SR HG.out HGB.out (by decide) HV.out (by decide))).trans x1
        have HRD := Lib.hid (HR.out.newer (Mod.drew (Mod.refl _ _)))
        go_wp2_with fail
        refine region_mS (SR b (.slice A l.length cp) wr) (by kernel_rfl) ?_
        simp only [List.length_cons, List.length_nil, List.replicate]
        refine take0S (v := ?v25) (oi := ?o25) 0 ?hi25 (by kernel_rfl) (by kernel_rfl) (by kernel_rfl) ?hq25 ?hy25 ?_
        case hi25 => (simp only [List.getElem?_toArray, List.getElem?_cons_zero, List.getElem?_cons_succ]; rfl)
        case hq25 => exact fun _ _ _ h => h
        case hy25 => first | (refine ry_notS ?_; rfl) | (refine ry_runS (by rfl) (fun w' hw' => ?_); go_simp; try rfl)
        simp only [Act.put, List.setIfInBounds_toArray, List.set_cons_zero, List.set_cons_succ]
        refine take0S (v := ?v26) (oi := ?o26) 1 ?hi26 (by kernel_rfl) (by kernel_rfl) (by kernel_rfl) ?hq26 ?hy26 ?_
        case hi26 => (simp only [List.getElem?_toArray, List.getElem?_cons_zero, List.getElem?_cons_succ]; rfl)
        case hq26 => exact fun _ _ _ h => h
        case hy26 => first | (refine ry_notS ?_; rfl) | (refine ry_runS (by rfl) (fun w' hw' => ?_); go_simp; try rfl)
        simp only [Act.put, List.setIfInBounds_toArray, List.set_cons_zero, List.set_cons_succ]
        refine take0S (v := ?v27) (oi := ?o27) 2 ?hi27 (by kernel_rfl) (by kernel_rfl) (by kernel_rfl) ?hq27 ?hy27 ?_
        case hi27 => (simp only [List.getElem?_toArray, List.getElem?_cons_zero, List.getElem?_cons_succ]; rfl)
        case hq27 => exact fun _ _ _ h => h
        case hy27 => first | (refine ry_notS ?_; rfl) | (refine ry_runS (by rfl) (fun w' hw' => ?_); go_simp; try rfl)
        simp only [Act.put, List.setIfInBounds_toArray, List.set_cons_zero, List.set_cons_succ]
        refine take0S (v := ?v28) (oi := ?o28) 4 ?hi28 (by kernel_rfl) (by kernel_rfl) (by kernel_rfl) ?hq28 ?hy28 ?_
        case hi28 => (simp only [List.getElem?_toArray, List.getElem?_cons_zero, List.getElem?_cons_succ]; rfl)
        case hq28 => exact fun _ _ _ h => h
        case hy28 => first | (refine ry_notS ?_; rfl) | (refine ry_runS (by rfl) (fun w' hw' => ?_); go_simp; try rfl)
        simp only [Act.put, List.setIfInBounds_toArray, List.set_cons_zero, List.set_cons_succ]
        refine take0S (v := ?v29) (oi := ?o29) 6 ?hi29 (by kernel_rfl) (by kernel_rfl) (by kernel_rfl) ?hq29 ?hy29 ?_
        case hi29 => (simp only [List.getElem?_toArray, List.getElem?_cons_zero, List.getElem?_cons_succ]; rfl)
        case hq29 => exact fun _ _ _ h => h
        case hy29 => first | (refine ry_notS ?_; rfl) | (refine ry_runS (by rfl) (fun w' hw' => ?_); go_simp; try rfl)
        simp only [Act.put, List.setIfInBounds_toArray, List.set_cons_zero, List.set_cons_succ]
        refine step0S (o := ?o30) 3 (by kernel_rfl) ?hi30 ?hw30 ?_
        case hi30 => (simp only [List.getElem?_toArray, List.getElem?_cons_zero, List.getElem?_cons_succ]; rfl)
        case hw30 => rfl
        go_simp
        refine (text_rd HRD.out 1 64 (fun _ => by omega) hL).mono ?_
        rintro e w3 ⟨rfl, h3, hm3⟩
        refine ⟨.inl (ModB.inS (Mod.drew (Mod.refl _ wr)) hm3), ?_⟩
        have HV3 := Lib.hid (hm3.keepOwn HV.out (by decide) (fun k hk hkb => by
          obtain ⟨cs, hcs⟩ := HR.out.has
          exact has_ne hcs (own_row HV.out hk) (by decide) hkb))
        have HG3' := Lib.hid (hm3.has HG.out (by decide) HGB.out)
        refine step0S (o := ?o31) 5 (by kernel_rfl) ?hi31 ?hw31 ?_
        case hi31 => (simp only [List.getElem?_toArray, List.getElem?_cons_zero, List.getElem?_cons_succ]; rfl)
        case hw31 => rfl
        go_simp
        refine (id_rd h3 (fun h => by have := HT1.out h; omega) hL).mono ?_
        rintro e w8 ⟨rfl, h8, hm8⟩
        refine ⟨.inl (ModB.inS (ModB.trans (Mod.drew (Mod.refl _ wr)) hm3) hm8), ?_⟩
        have HV8 := Lib.hid (hm8.keepOwn HV3.out (by decide) (fun k hk hkb => by
          obtain ⟨cs, hcs⟩ := h3.has
          exact has_ne hcs (own_row HV3.out hk) (by decide) hkb))
        have HG8 := Lib.hid (hm8.has HG3'.out (by decide) HGB.out)
        refine step0S (o := ?o32) 7 (by kernel_rfl) ?hi32 ?hw32 ?_
        case hi32 => (simp only [List.getElem?_toArray, List.getElem?_cons_zero, List.getElem?_cons_succ]; rfl)
        case hw32 => rfl
        go_simp
        refine (int_rd h8 1 4096 (fun h => by have h2 := HT2.out h; have := HT1.out h2.1; omega) hL).mono ?_
        rintro e w4 ⟨rfl, h4, hm4⟩
        refine ⟨.inl (ModB.inS (ModB.trans (ModB.trans (Mod.drew (Mod.refl _ wr)) hm3) hm8) hm4), ?_⟩
        have HV4 := Lib.hid (hm4.keepOwn HV8.out (by decide) (fun k hk hkb => by
          obtain ⟨cs, hcs⟩ := h8.has
          exact has_ne hcs (own_row HV8.out hk) (by decide) hkb))
        have HG4 := Lib.hid (hm4.has HG8.out (by decide) HGB.out)
        generalize hP : (rdLink L x).1 = P at *
        have e0 : (⟨(tText L 1 64 x).1.toArray⟩ : ByteArray) = P.last := by rw [← hP]; rfl
        have e1 : (⟨(tId L (tText L 1 64 x).2).1.toArray⟩ : ByteArray) = P.id := by rw [← hP]; rfl
        have e2 : (tInt L 1 4096 (tId L (tText L 1 64 x).2).2).1 = P.many := by rw [← hP]; rfl
        have e3 : (tInt L 1 4096 (tId L (tText L 1 64 x).2).2).2 = (rdLink L x).2 := rfl
        rw [e0, e1, e2]
        rw [e3] at h4
        generalize (rdLink L x).2 = x4 at *
        refine take0S (v := ?v33) (oi := ?o33) 8 ?hi33 (by kernel_rfl) (by kernel_rfl) (by kernel_rfl) ?hq33 ?hy33 ?_
        case hi33 => (simp only [List.getElem?_toArray, List.getElem?_cons_zero, List.getElem?_cons_succ]; rfl)
        case hq33 => exact fun _ _ _ h => h
        case hy33 => first | (refine ry_notS ?_; rfl) | (refine ry_runS (by rfl) (fun w' hw' => ?_); go_simp; try rfl)
        simp only [Act.put, List.setIfInBounds_toArray, List.set_cons_zero, List.set_cons_succ]
        refine step0S (o := ?o34) 9 (by kernel_rfl) ?hi34 ?hw34 ?_
        case hi34 => (simp only [List.getElem?_toArray, List.getElem?_cons_zero, List.getElem?_cons_succ]; rfl)
        case hw34 => rfl
        go_simp
        refine ⟨.inl (Mod.alloc (Mod.refl _ _) _), ?_⟩
        refine step0S (o := ?o35) 10 (by kernel_rfl) ?hi35 ?hw35 ?_
        case hi35 => (simp only [List.getElem?_toArray, List.getElem?_cons_zero, List.getElem?_cons_succ]; rfl)
        case hw35 => rfl
        refine app_step (.tmp 27) (.tmp 35) link_t w0.heap.size (.slice A l.length cp) l.length (l.flatMap lc) (HV4.out.alloc _) ⟨w4.heap.size, 0, none⟩ 1 1 [.string P.last, .string P.id, .int .i64 P.many] rfl rfl rfl rfl (cells_new w4 _ _) (by intro u hu; simp at hu; rcases hu with rfl | rfl | rfl <;> rfl) (by omega) (by unfold maxLen; omega) (by have := h4.mod.size; simp; omega) ?_
        intro v5 w5 ho hm5
        refine ⟨.inl (hm5.mono fun _ _ h => .inr (.inr (.inl h.2))), ?_⟩
        obtain ⟨A5, c5, rfl, _, _, _, _⟩ := own_cells ho
        have HVA := Lib.hid (HV4.out.alloc (.cells #[.string P.last, .string P.id, .int .i64 P.many] 67))
        have hG5 := (HG4.out.alloc (.cells #[.string P.last, .string P.id, .int .i64 P.many] 67)).keep hm5 (fun hs => has_ne (HG4.out.alloc _) (own_row HVA.out hs.2) (by decide) rfl)
        have y1 := hG5.frozen 1
        have q1 := hG5.cell (o := 1) rfl
        simp only [Act.put, List.setIfInBounds_toArray, List.set_cons_zero, List.set_cons_succ]
        refine take0S (v := ?v36) (oi := ?o36) 11 ?hi36 (by kernel_rfl) (by kernel_rfl) (by kernel_rfl) ?hq36 ?hy36 ?_
        case hi36 => (simp only [List.getElem?_toArray, List.getElem?_cons_zero, List.getElem?_cons_succ]; rfl)
        case hq36 => exact fun _ _ _ h => h
        case hy36 => first | (refine ry_notS ?_; rfl) | (refine ry_runS (by rfl) (fun w' hw' => ?_); go_simp; try rfl)
        simp only [Act.put, List.setIfInBounds_toArray, List.set_cons_zero, List.set_cons_succ]
        refine step0S (o := ?o37) 12 (by kernel_rfl) ?hi37 ?hw37 ?_
        case hi37 => (simp only [List.getElem?_toArray, List.getElem?_cons_zero, List.getElem?_cons_succ]; rfl)
        case hw37 => rfl
        go_simp
        refine ⟨.inr (by kernel_rfl), ?_⟩
        refine wpAnyM_done (by kernel_rfl) ?_
        have hRA := h4.alloc (.cells #[.string P.last, .string P.id, .int .i64 P.many] 67)
        have hbs := h4.mod.size
        obtain ⟨cs, hcs⟩ := hRA.has
        have h5 : Rd w0 b L x4 w5 := hRA.keep hm5 (fun hs => has_ne hcs (own_row HVA.out hs.2) (by decide) rfl) (fun k hk hs => byteRow_ne hk (own_row HVA.out hs.2) (by decide)) (fun k hk hs => by omega)
        have hmS := (Mod.refl (fun k => k = w2.heap.size) w5).set1 rfl 1 (.slice A5 (l.length + 1) c5)
        have h6 : Rd w0 b L x4 (w5.setCell ⟨w2.heap.size, 1, none⟩ (.slice A5 (l.length + 1) c5)) := h5.keep hmS (fun h => HGB.out h.symm) (fun k ⟨cur, fz, hk⟩ hs => has_ne hG5 ⟨cur, fz, by rw [← hs]; exact hk⟩ (by decide) rfl) (fun k hk hs => by have := HGZ.out; omega)
        have hv6 := own_keep ho hmS (fun k _ hk hs => has_ne hG5 (own_row ho hk) (by decide) hs)
        have hv7 : (w5.setCell ⟨w2.heap.size, 1, none⟩ (.slice A5 (l.length + 1) c5)).ownsRow w0.heap.size 67 3 (.slice A5 (l.length + 1) c5) (l ++ [P]).length ((l ++ [P]).flatMap lc) := by rw [List.length_append, List.flatMap_append]; exact hv6
        have H6 := Lib.hid h6
        have HV7 := Lib.hid hv7
        have HG7 := Lib.hid (hG5.set 1 (.slice A5 (l.length + 1) c5))
        have hin7 : ∀ p ∈ l ++ [P], In64 p.many := fun p hp => by
          rcases List.mem_append.1 hp with hp | hp
          · exact HIN.out p hp
          · obtain rfl := List.mem_singleton.1 hp; exact HIN1.out
        have HIN7 := Lib.hid hin7
        clear ho hm5 hRA hcs h5 h6 hv6 hv7 hmS hG5 HVA h3 hm3 h4 hm4 h8 hm8 fv x1 y1 q1 hin7 HV4 HV3 HG4 HG3' HV8 HG8 HT1 HT2
        have w1 : IntKind.i64.wrap (z - 1) = z - 1 := by rw [IntKind.wrap_i64]; omega
        go_wp2_with fail
        go_roundw
        case rel =>
          refine ⟨z - 1, x4, l ++ [P], _, rfl, by omega, fun h => ?_, by simp; omega, HST, H6, HV7, HG7, HIN7⟩
          have := (HPL.out h).2
          rw [List.length_append, List.length_singleton]
          omega
        case measure => simp [intOf]; omega
      · have HD2 : Hid (rdBranch L = (x, l)) := Lib.hid (by rw [HD.out, rdList_stop _ _ _ _ (.inl (by omega))])
        clear hx HD hb hb0
        obtain ⟨A, cp, rfl, _, hcl, _, _⟩ := own_cells HV.out
        have HCL := Lib.hid hcl
        clear hcl
        have x1 := HG.out.cell (o := 1) rfl
        have hgl := HG.out.lt
        have fv := fun (w' : World) (h : Mod (SR b (.slice A l.length cp) wr) wr.drew w') => (h.cell (p := ⟨w2.heap.size, 1, none⟩) hgl (not_SR HG.out HGB.out (by decide) HV.out (by decide))).trans x1
        have HRD := Lib.hid (HR.out.newer (Mod.drew (Mod.refl _ _)))
        have hab : ∀ a, A = some a → l ≠ [] → a.block ≠ b := by
          intro a ha hne hab
          obtain ⟨cs, hcs⟩ := HR.out.has
          exact has_ne hcs (own_row HV.out (k := a.block) (by rw [ha]; rfl)) (by decide) hab
        have HAB := Lib.hid hab
        clear hab
        go_wp2_with fail
        refine region_mS (SR b (.slice A l.length cp) wr) (by kernel_rfl) ?_
        simp only [List.length_cons, List.length_nil, List.replicate]
        refine take0S (v := ?v38) (oi := ?o38) 0 ?hi38 (by kernel_rfl) (by kernel_rfl) (by kernel_rfl) ?hq38 ?hy38 ?_
        case hi38 => (simp only [List.getElem?_toArray, List.getElem?_cons_zero, List.getElem?_cons_succ]; rfl)
        case hq38 => exact fun _ _ _ h => h
        case hy38 => first | (refine ry_notS ?_; rfl) | (refine ry_runS (by rfl) (fun w' hw' => ?_); go_simp; try rfl)
        simp only [Act.put, List.setIfInBounds_toArray, List.set_cons_zero, List.set_cons_succ]
        refine take0S (v := ?v39) (oi := ?o39) 1 ?hi39 (by kernel_rfl) (by kernel_rfl) (by kernel_rfl) ?hq39 ?hy39 ?_
        case hi39 => (simp only [List.getElem?_toArray, List.getElem?_cons_zero, List.getElem?_cons_succ]; rfl)
        case hq39 => exact fun _ _ _ h => h
        case hy39 => first | (refine ry_notS ?_; rfl) | (refine ry_runS (by rfl) (fun w' hw' => ?_); go_simp; try rfl)
        simp only [Act.put, List.setIfInBounds_toArray, List.set_cons_zero, List.set_cons_succ]
        refine take0S (v := ?v40) (oi := ?o40) 2 ?hi40 (by kernel_rfl) (by kernel_rfl) (by kernel_rfl) ?hq40 ?hy40 ?_
        case hi40 => (simp only [List.getElem?_toArray, List.getElem?_cons_zero, List.getElem?_cons_succ]; rfl)
        case hq40 => exact fun _ _ _ h => h
        case hy40 => first | (refine ry_notS ?_; rfl) | (refine ry_runS (by rfl) (fun w' hw' => ?_); go_simp; try rfl)
        simp only [Act.put, List.setIfInBounds_toArray, List.set_cons_zero, List.set_cons_succ]
        refine take0S (v := ?v41) (oi := ?o41) 3 ?hi41 (by kernel_rfl) (by kernel_rfl) (by kernel_rfl) ?hq41 ?hy41 ?_
        case hi41 => (simp only [List.getElem?_toArray, List.getElem?_cons_zero, List.getElem?_cons_succ]; rfl)
        case hq41 => exact fun _ _ _ h => h
        case hy41 => first | (refine ry_notS ?_; rfl) | (refine ry_runS (by rfl) (fun w' hw' => ?_); go_simp; try rfl)
        simp only [Act.put, List.setIfInBounds_toArray, List.set_cons_zero, List.set_cons_succ]
        refine take0S (v := ?v42) (oi := ?o42) 4 ?hi42 (by kernel_rfl) (by kernel_rfl) (by kernel_rfl) ?hq42 ?hy42 ?_
        case hi42 => (simp only [List.getElem?_toArray, List.getElem?_cons_zero, List.getElem?_cons_succ]; rfl)
        case hq42 => exact fun _ _ _ h => h
        case hy42 => first | (refine ry_notS ?_; rfl) | (refine ry_runS (by rfl) (fun w' hw' => ?_); go_simp; try rfl)
        simp only [Act.put, List.setIfInBounds_toArray, List.set_cons_zero, List.set_cons_succ]
        refine step0S (o := ?o43) 5 (by kernel_rfl) ?hi43 ?hw43 ?_
        case hi43 => (simp only [List.getElem?_toArray, List.getElem?_cons_zero, List.getElem?_cons_succ]; rfl)
        case hw43 => rfl
        go_simp
        refine (risingL_rd HRD.out A cp l HCL.out HAB.out (by omega)).mono ?_
        rintro e w5 ⟨rfl, h5, hm5⟩
        refine ⟨.inl (ModB.inS (Mod.drew (Mod.refl _ wr)) hm5), ?_⟩
        refine wpAnyM_done (by kernel_rfl) ?_
        have HV5 := Lib.hid (hm5.keepOwn HV.out (by decide) (fun k hk hkb => by
          obtain ⟨cs, hcs⟩ := HR.out.has
          exact has_ne hcs (own_row HV.out hk) (by decide) hkb))
        have hG5 := hm5.has HG.out (by decide) HGB.out
        have HG5 := Lib.hid hG5
        have x15 := hG5.cell (o := 1) rfl
        have hgl5 := hG5.lt
        have fv5 := fun (w' : World) (h : Mod (SR b (.slice A l.length cp) w5) w5.drew w') => (h.cell (p := ⟨w2.heap.size, 1, none⟩) hgl5 (not_SR HG5.out HGB.out (by decide) HV5.out (by decide))).trans x15
        have HRD5 := Lib.hid (h5.newer (Mod.drew (Mod.refl _ _)))
        have hcl5 : Cells w5 A (l.flatMap lc) := by
          obtain ⟨A9, c9, he9, _, hc9, _, _⟩ := own_cells HV5.out
          obtain ⟨rfl, _⟩ : A = A9 ∧ cp = c9 := by simpa using he9
          exact hc9
        have HCL5 := Lib.hid hcl5
        clear h5 hm5 hG5 fv x1 hgl hcl5
        go_wp2_with fail
        refine region_mS (SR b (.slice A l.length cp) w5) (by kernel_rfl) ?_
        simp only [List.length_cons, List.length_nil, List.replicate]
        refine take0S (v := ?v44) (oi := ?o44) 0 ?hi44 (by kernel_rfl) (by kernel_rfl) (by kernel_rfl) ?hq44 ?hy44 ?_
        case hi44 => (simp only [List.getElem?_toArray, List.getElem?_cons_zero, List.getElem?_cons_succ]; rfl)
        case hq44 => exact fun _ _ _ h => h
        case hy44 => first | (refine ry_notS ?_; rfl) | (refine ry_runS (by rfl) (fun w' hw' => ?_); go_simp; try rfl)
        simp only [Act.put, List.setIfInBounds_toArray, List.set_cons_zero, List.set_cons_succ]
        refine take0S (v := ?v45) (oi := ?o45) 1 ?hi45 (by kernel_rfl) (by kernel_rfl) (by kernel_rfl) ?hq45 ?hy45 ?_
        case hi45 => (simp only [List.getElem?_toArray, List.getElem?_cons_zero, List.getElem?_cons_succ]; rfl)
        case hq45 => exact fun _ _ _ h => h
        case hy45 => first | (refine ry_notS ?_; rfl) | (refine ry_runS (by rfl) (fun w' hw' => ?_); go_simp; try rfl)
        simp only [Act.put, List.setIfInBounds_toArray, List.set_cons_zero, List.set_cons_succ]
        refine take0S (v := ?v46) (oi := ?o46) 2 ?hi46 (by kernel_rfl) (by kernel_rfl) (by kernel_rfl) ?hq46 ?hy46 ?_
        case hi46 => (simp only [List.getElem?_toArray, List.getElem?_cons_zero, List.getElem?_cons_succ]; rfl)
        case hq46 => exact fun _ _ _ h => h
        case hy46 => first | (refine ry_notS ?_; rfl) | (refine ry_runS (by rfl) (fun w' hw' => ?_); go_simp; try rfl)
        simp only [Act.put, List.setIfInBounds_toArray, List.set_cons_zero, List.set_cons_succ]
        refine take0S (v := ?v47) (oi := ?o47) 3 ?hi47 (by kernel_rfl) (by kernel_rfl) (by kernel_rfl) ?hq47 ?hy47 ?_
        case hi47 => (simp only [List.getElem?_toArray, List.getElem?_cons_zero, List.getElem?_cons_succ]; rfl)
        case hq47 => exact fun _ _ _ h => h
        case hy47 => first | (refine ry_notS ?_; rfl) | (refine ry_runS (by rfl) (fun w' hw' => ?_); go_simp; try rfl)
        simp only [Act.put, List.setIfInBounds_toArray, List.set_cons_zero, List.set_cons_succ]
        refine take0S (v := ?v48) (oi := ?o48) 4 ?hi48 (by kernel_rfl) (by kernel_rfl) (by kernel_rfl) ?hq48 ?hy48 ?_
        case hi48 => (simp only [List.getElem?_toArray, List.getElem?_cons_zero, List.getElem?_cons_succ]; rfl)
        case hq48 => exact fun _ _ _ h => h
        case hy48 => first | (refine ry_notS ?_; rfl) | (refine ry_runS (by rfl) (fun w' hw' => ?_); go_simp; try rfl)
        simp only [Act.put, List.setIfInBounds_toArray, List.set_cons_zero, List.set_cons_succ]
        refine step0S (o := ?o49) 5 (by kernel_rfl) ?hi49 ?hw49 ?_
        case hi49 => (simp only [List.getElem?_toArray, List.getElem?_cons_zero, List.getElem?_cons_succ]; rfl)
        case hw49 => rfl
        go_simp
        refine (sumL_rd HRD5.out A cp l 4096 HCL5.out (by omega) (by omega) HIN.out).mono ?_
        rintro e w6 ⟨rfl, h6, hm6⟩
        refine ⟨.inl (ModB.inS (Mod.drew (Mod.refl _ w5)) hm6), ?_⟩
        refine wpAnyM_done (by kernel_rfl) ?_
        have HV6 := Lib.hid (hm6.keepOwn HV5.out (by decide) (fun k hk hkb => by
          obtain ⟨cs, hcs⟩ := HRD5.out.has
          exact has_ne hcs (own_row HV5.out hk) (by decide) hkb))
        have hG6 := hm6.has HG5.out (by decide) HGB.out
        have hW := whole_rd h6
        have hok : okBranch L = wholeB L ((x.ask (rises (l.map (·.last)))).ask (decide (capSum 4096 (l.map (·.many)) ≤ 4096))) := by unfold okBranch; rw [HD2.out]
        rw [← hok] at hW
        have HW := Lib.hid hW
        have HM6 := Lib.hid h6.mod
        have HG6 := Lib.hid hG6
        clear hW hok h6 hm6 fv5 x15 hgl5 hG6
        go_wp2_with fail
        cases hk : okBranch L with
        | true =>
          have HOK := Lib.hid hk
          rw [hk] at HW
          clear hk
          refine HW.out.mono ?_
          rintro e w7 ⟨rfl, hm7⟩
          have HV7 := Lib.hid (own_keep HV6.out hm7 (fun _ _ _ h => h))
          have hG7 := HG6.out.keep hm7 (fun h => h)
          have z0 := hG7.cell (o := 0) rfl
          have z1 := hG7.cell (o := 1) rfl
          have hM7 := Mod.trans HM6.out hm7 (fun _ _ h => h)
          have hR7 := HR0.out.keep hM7 (fun h => h)
          have k0 := hR7.frozen 0
          have k1 := hR7.frozen 1
          have q0 := hR7.cell (o := 0) rfl
          have q1 := hR7.cell (o := 1) rfl
          have HR7 := Lib.hid hR7
          have HM7 := Lib.hid (Mod.trans HM0.out hM7 (fun _ _ h => h))
          clear hm7 hM7 hR7 hG7
          go_wp2_with fail
          refine bodyPost_ret (v := .tuple #[.agg #[.int .i64 (branchL L), .slice A l.length cp], .int .i64 0]) (by simp [results, Tryd.results67, go_sem, q0, q1]) rfl ⟨_, by rw [HOK.out]; unfold outBranch; rw [if_pos HOK.out]; rfl, ?_, ?_⟩
          · unfold outBranch
            rw [if_pos HOK.out, HD2.out]
            exact own_base (own_keep (S := fun k => k = w.heap.size) HV7.out (((Mod.refl (fun k => k = w.heap.size) _).set1 rfl _ _).set1 rfl _ _) (fun k hk _ h => by have := HSZ.out; omega)) (by have := HSZ.out; omega)
          · exact (HM7.out.setCell (p := ⟨w.heap.size, 0, none⟩) (.inr (by simp)) _).setCell (p := ⟨w.heap.size, 1, none⟩) (.inr (by simp)) _
        | false =>
          have HOK := Lib.hid hk
          rw [hk] at HW
          clear hk
          refine HW.out.mono ?_
          rintro e w7 ⟨rfl, hm7⟩
          have hM7 := Mod.trans HM6.out hm7 (fun _ _ h => h)
          have hR7 := HR0.out.keep hM7 (fun h => h)
          have k0 := hR7.frozen 0
          have k1 := hR7.frozen 1
          have q0 := hR7.cell (o := 0) rfl
          have q1 := hR7.cell (o := 1) rfl
          have HR7 := Lib.hid hR7
          have HM7 := Lib.hid (Mod.trans HM0.out hM7 (fun _ _ h => h))
          clear hm7 hM7 hR7
          go_wp2_with fail
          refine bodyPost_ret (v := .tuple #[.agg #[.int .i64 0, .slice none 0 0], .int .i64 81]) (by simp [results, Tryd.results67, go_sem, q0, q1]) rfl ⟨_, by rw [HOK.out]; unfold outBranch; rw [if_neg (by rw [HOK.out]; decide)]; rfl, ?_, ?_⟩
          · unfold outBranch
            rw [if_neg (by rw [HOK.out]; decide)]
            exact World.ownsRow_nil _ _ _ _
          · exact (HM7.out.setCell (p := ⟨w.heap.size, 0, none⟩) (.inr (by simp)) _).setCell (p := ⟨w.heap.size, 1, none⟩) (.inr (by simp)) _
end Obj
end Go.Proofs.YtpoljpjcmigobaaDoor
