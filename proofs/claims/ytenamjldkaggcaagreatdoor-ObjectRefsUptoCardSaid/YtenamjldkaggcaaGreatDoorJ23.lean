/- Joined texts: ObjC, ObjCw, ObjCt. -/
import Derived.Test.YtenamjldkaggcaaGreatDoorJ13
import Derived.Lib.Strings
import Derived.Lib.Slices
import Derived.Lib.Walk
/- Plain laws of commits; slices.Contains of texts; the reference's Same of two lists that are the same. -/
namespace Go.Proofs.YtenamjldkaggcaaGreatDoor
set_option linter.unusedVariables false
set_option linter.unusedSimpArgs false
open Go.RowKit K Wire
namespace Obj

structure Com where
  tree : ByteArray
  pars : List ByteArray
  who : ByteArray
  time : Int
  note : ByteArray
def comC (C : Com) (A : Option Addr) (c : Nat) : Array Value := #[.string C.tree, .slice A C.pars.length c, .string C.who, .int .i64 C.time, .string C.note]
def par (ps : List ByteArray) (i : Nat) : ByteArray := ps.getD i ByteArray.empty
def parK (ps : List ByteArray) : Nat → W → W
  | 0, x => x
  | k + 1, x => W.ask (!Lib.containsS (ps.take k) (par ps k)) (W.id (par ps k) (parK ps k x))
def parOne (ps : List ByteArray) (i : Nat) : Bool := decide ((par ps i).size = 32) && !Lib.containsS (ps.take i) (par ps i)
def parOk (ps : List ByteArray) (k : Nat) : Bool := (List.range k).all (parOne ps)
def parB (p : ByteArray) : List UInt8 := p.data.toList
theorem parOk_succ (ps : List ByteArray) (k : Nat) : parOk ps (k + 1) = (parOk ps k && parOne ps k) := by
  unfold parOk; rw [List.range_succ, List.all_append]; simp only [List.all_cons, List.all_nil, Bool.and_true]
theorem par_get {ps : List ByteArray} {k : Nat} (h : k < ps.length) : par ps k = ps[k] := by simp [par, List.getD, h]
theorem parK_l (ps : List ByteArray) (x : W) : ∀ k, k ≤ ps.length → (parK ps k x).l = x.l ++ (ps.take k).flatMap parB
  | 0, _ => by simp [parK]
  | k + 1, h => by
    rw [List.take_succ_eq_append_getElem (by omega), List.flatMap_append, ← List.append_assoc, ← parK_l ps x k (by omega), parK]
    simp [W.ask, W.id, parB, par_get (ps := ps) (k := k) (by omega)]
theorem parK_bad (ps : List ByteArray) (x : W) : ∀ k, (parK ps k x).bad = (x.bad || !parOk ps k)
  | 0 => by simp [parK, parOk]
  | k + 1 => by
    rw [parOk_succ, parK]
    simp only [W.ask, W.id, parK_bad ps x k, parOne]
    cases x.bad <;> cases parOk ps k <;> cases decide ((par ps k).size = 32) <;> simp
def commitW0 (C : Com) : W := W.int (C.pars.length : Int) 0 8 (W.id C.tree ⟨[0x4b], false⟩)
def commitW1 (C : Com) : W := parK C.pars C.pars.length (commitW0 C)
def commitW (C : Com) : W := W.text C.note 0 1024 (W.int C.time 0 4611686018427387904 (W.text C.who 0 64 (commitW1 C)))
def commitB (C : Com) : List UInt8 := 0x4b :: (C.tree.data.toList ++ (enc (C.pars.length : Int) ++ (C.pars.flatMap parB ++ (encT C.who.data.toList ++ (enc C.time ++ encT C.note.data.toList)))))
def rightCommit (C : Com) : Bool := decide (C.tree.size = 32) && inR (C.pars.length : Int) 0 8 && inR (C.who.size : Int) 0 64 && inR (C.note.size : Int) 0 1024 && inR C.time 0 4611686018427387904 && parOk C.pars C.pars.length
theorem commitW_l (C : Com) : (commitW C).l = commitB C := by
  simp only [commitW, commitW1, commitW0, W.text, W.int]
  rw [parK_l _ _ _ (Nat.le_refl _), List.take_length]
  simp [W.id, commitB]
theorem commitW_bad (C : Com) : (commitW C).bad = !rightCommit C := by
  simp only [commitW, commitW1, commitW0, W.text, W.int, W.id, parK_bad, rightCommit]
  cases decide (C.tree.size = 32) <;> cases inR (C.pars.length : Int) 0 8 <;> cases parOk C.pars C.pars.length <;> cases inR (C.who.size : Int) 0 64 <;> cases inR C.time 0 4611686018427387904 <;> simp

set_option maxRecDepth 100000 in
set_option maxHeartbeats 1000000 in
theorem index_calls (A : Option Addr) (c : Nat) (zs : List ByteArray) (x : ByteArray) (w : World) (hA : Cells w A (zs.map .string)) (hn : zs.length ≤ 100000000) :
    Calls Tryz.prog 39 #[.slice A zs.length c, .string x] w fun e w' => e = .returned (.int .i64 (Lib.idxOfS zs x)) ∧ w' = w := by
  rcases hA with h | ⟨b, off, rfl, hcell⟩
  · have : zs = [] := by simpa using h
    subst this
    go_enter Tryz.func39, Tryz.ntmps39
    go_wp2
    go_loop [5, 8] (fun _ i => i = .int .i64 0) (fun _ _ => 0)
    case atStart => rfl
    case round =>
      subst hrel
      go_wp2
      go_ret
      exact ⟨rfl, rfl⟩
  · obtain ⟨n, hnz⟩ : ∃ n, zs.length = n := ⟨_, rfl⟩
    have hz : n ≤ zs.length := by omega
    have htk : zs.take n = zs := by rw [← hnz, List.take_length]
    have hc : ∀ j, j < zs.length → w.cell? ⟨b, off + j, none⟩ = some (.string (zs.getD j ByteArray.empty)) := fun j hj => hcell j _ (by simp [List.getD, hj])
    rw [hnz]
    rw [hnz] at hn
    clear hcell
    go_enter Tryz.func39, Tryz.ntmps39
    go_wp2
    go_loopw [5, 8] (fun _ i wr => ∃ k : Nat, i = .int .i64 k ∧ k ≤ n ∧ Hid (∀ j, j < k → zs.getD j ByteArray.empty ≠ x) ∧ wr = w) (fun _ i _ => n - (intOf i).toNat)
    case atStart => exact ⟨0, by go_num, Nat.zero_le _, Lib.hid (fun j hj => absurd hj (Nat.not_lt_zero _)), rfl⟩
    case round =>
      obtain ⟨k, rfl, hk, HN, rfl⟩ := hrel
      by_cases hlt : k < n
      · have i1 : (k : Int) < (n : Int) := by omega
        have i0 : (0 : Int) ≤ (k : Int) := by omega
        have hcell := hc k (by omega)
        obtain ⟨y, hy⟩ : ∃ y, zs.getD k ByteArray.empty = y := ⟨_, rfl⟩
        rw [hy] at hcell
        have HY := Lib.hid hy
        clear hy hc
        by_cases he : x = y
        · have heq : (x.toList == y.toList) = true := (Lib.bytes_beq_iff _ _).2 he
          have hh := Lib.idxOfS_hit zs n k x hlt hz (by rw [HY.out, he]) HN.out
          rw [htk] at hh
          have HH := Lib.hid hh
          clear hh he
          go_wp2_with fail
          go_ret
          exact ⟨by rw [HH.out]; rfl, rfl⟩
        · have heq : (x.toList == y.toList) = false := (Lib.bytes_beq_false_iff _ _).2 he
          have hn2 : ∀ j, j < k + 1 → zs.getD j ByteArray.empty ≠ x := fun j hj => by
            by_cases e : j = k
            · subst e; rw [HY.out]; exact fun h => he h.symm
            · exact HN.out j (by omega)
          have HN2 := Lib.hid hn2
          clear hn2 he
          go_wp2_with fail
          go_roundw
          case rel => exact ⟨k + 1, by go_num, by omega, HN2, trivial⟩
          case measure => simp [intOf]; omega
      · have i1 : ¬ (k : Int) < (n : Int) := by omega
        have hkn : k = n := by omega
        have hh := Lib.idxOfS_miss zs k x HN.out
        rw [hkn, htk] at hh
        have HH := Lib.hid hh
        clear hh hc
        go_wp2_with fail
        go_ret
        exact ⟨by rw [HH.out]; rfl, rfl⟩
set_option maxRecDepth 100000 in
theorem contains_calls (A : Option Addr) (c : Nat) (zs : List ByteArray) (x : ByteArray) (w : World) (hA : Cells w A (zs.map .string)) (hn : zs.length ≤ 100000000) :
    Calls Tryz.prog 13 #[.slice A zs.length c, .string x] w fun e w' => e = .returned (.bool (Lib.containsS zs x)) ∧ Mod (fun _ => False) w w' := by
  have HI := Lib.hid (index_calls A c zs x w hA hn)
  unfold Lib.containsS
  clear hA
  go_enter Tryz.func13, Tryz.ntmps13
  go_wp2_with fail
  refine HI.out.mono ?_
  rintro e w1 ⟨rfl, rfl⟩
  go_wp2_with fail
  go_ret
  exact ⟨rfl, Mod.refl _ _⟩
theorem str_cell {w : World} {ba o : Nat} {ss : List ByteArray} (h : ∀ j u, (ss.map Value.string)[j]? = some u → w.cell? ⟨ba, o + j, none⟩ = some u) (k : Nat) (hk : k < ss.length) : w.cell? ⟨ba, o + k, none⟩ = some (.string ss[k]) := h k _ (by simp [hk])
set_option maxRecDepth 100000 in
set_option maxHeartbeats 1000000 in
theorem same_calls (A A' : Option Addr) (c c' : Nat) (ss : List ByteArray) (w : World) (hA : Cells w A (ss.map .string)) (hA' : Cells w A' (ss.map .string)) (hc : ss.length ≤ 100000000) :
    Calls Tryz.prog 7 #[.slice A ss.length c, .slice A' ss.length c'] w fun e w' => e = .returned (.bool true) ∧ Mod (fun _ => False) w w' := by
  have HA := Lib.hid hA
  have HA' := Lib.hid hA'
  clear hA hA'
  go_enter Tryz.func7, Tryz.ntmps7
  go_wp2_with fail
  go_loopw [5] (fun i wr => ∃ (k : Nat), i = .int .i64 k ∧ k ≤ ss.length ∧ Hid (Mod (fun _ => False) w wr)) (fun i _ => ss.length - (intOf i).toNat)
  case atStart => exact ⟨0, by go_num, by omega, Lib.hid (Mod.refl _ _)⟩
  case round =>
    obtain ⟨k, rfl, hk, HM⟩ := hrel
    by_cases hlt : k < ss.length
    · have i1 : (k : Int) < (ss.length : Int) := by omega
      have i0 : (0 : Int) ≤ (k : Int) := by omega
      rcases HA.out.keep HM.out (fun _ _ h => h) with h | ⟨ba, o, rfl, hcell⟩
      · have : ss = [] := by simpa using h
        subst this; simp at hlt
      rcases HA'.out.keep HM.out (fun _ _ h => h) with h | ⟨ba', o', rfl, hcell'⟩
      · have : ss = [] := by simpa using h
        subst this; simp at hlt
      have a0 := str_cell hcell k hlt
      have b0 := str_cell hcell' k hlt
      generalize ss[k] = p at *
      clear hcell hcell'
      go_wp2_with fail
      go_quiet (fail)
      go_wp2_with fail
      go_roundw
      case rel => exact ⟨k + 1, by go_num, by omega, Lib.hid (HM.out.drewN _)⟩
      case measure => simp [intOf]; omega
    · have i1 : ¬ (k : Int) < (ss.length : Int) := by omega
      go_wp2_with fail
      go_ret
      exact ⟨rfl, HM.out⟩
end Obj
end Go.Proofs.YtenamjldkaggcaaGreatDoor
/- The walk of object's Commit. -/
namespace Go.Proofs.YtenamjldkaggcaaGreatDoor
set_option linter.unusedVariables false
set_option linter.unusedSimpArgs false
open Go.RowKit K Wire
namespace Obj

theorem commit_len (C : Com) (h : rightCommit C = true) : (commitB C).length ≤ 1048576 := by
  simp only [rightCommit, Bool.and_eq_true, decide_eq_true_eq] at h
  obtain ⟨⟨⟨⟨⟨h1, h2⟩, h3⟩, h4⟩, h5⟩, h6⟩ := h
  simp only [inR, Bool.and_eq_true, decide_eq_true_eq] at h2 h3 h4 h5
  have a1 := flatMap_most parB 32 C.pars fun p hp => by
    obtain ⟨i, hi, rfl⟩ := List.mem_iff_getElem.1 hp
    have := List.all_eq_true.1 h6 i (List.mem_range.2 hi)
    simp only [parOne, Bool.and_eq_true, decide_eq_true_eq, par_get hi] at this
    have e : C.pars[i].data.toList.length = C.pars[i].size := by simp
    simp only [parB]; omega
  have a2 := encT_len C.who (by omega)
  have a3 := encT_len C.note (by omega)
  have a4 := enc_len C.time (by unfold In64; omega)
  have a5 := enc_len (C.pars.length : Int) (by unfold In64; omega)
  have e : C.tree.data.toList.length = C.tree.size := by simp
  simp only [commitB, List.length_append, List.length_cons]
  omega

end Obj
end Go.Proofs.YtenamjldkaggcaaGreatDoor
/- The walk of object's TakeCommit. -/
namespace Go.Proofs.YtenamjldkaggcaaGreatDoor
set_option linter.unusedVariables false
set_option linter.unusedSimpArgs false
open Go.RowKit K Wire
namespace Obj

/-- a store into a block of another type -/
theorem Rd.store {w0 : World} {b g T : Nat} {L : List UInt8} {x : RS} {w : World} {cs : List Value} (h : Rd w0 b L x w) (hg : Has w g cs T) (hT : T ≠ 5) (hb : g ≠ b) (hz : w0.heap.size ≤ g) (o : Nat) (u : Value) : Rd w0 b L x (w.setCell ⟨g, o, none⟩ u) :=
  h.keep ((Mod.refl (fun k => k = g) w).set1 rfl o u) (fun h => hb h.symm) (fun k ⟨cur, fz, hk⟩ hs => has_ne hg ⟨cur, fz, by rw [← hs]; exact hk⟩ hT rfl) (fun k hk hs => by omega)
theorem own_store {w : World} {base e size n g T : Nat} {v : Value} {xs cs : List Value} (h : w.ownsRow base e size v n xs) (hg : Has w g cs T) (hT : T ≠ e) (o : Nat) (u : Value) : (w.setCell ⟨g, o, none⟩ u).ownsRow base e size v n xs :=
  own_keep h ((Mod.refl (fun k => k = g) w).set1 rfl o u) (fun k _ hk hs => has_ne hg (own_row h hk) hT hs)
/-- an append to a row of another type -/
theorem Rd.appended {w0 : World} {b base e size n : Nat} {L : List UInt8} {x : RS} {w w' : World} {v : Value} {xs : List Value} (h : Rd w0 b L x w) (hv : w.ownsRow base e size v n xs) (he : e ≠ 5) (he2 : 83 ≠ e) (hz : w0.heap.size ≤ base) (hm : Mod (fun k => base ≤ k ∧ v.ownBlock = some k) w w') : Rd w0 b L x w' := by
  obtain ⟨cs, hcs⟩ := h.has
  exact h.keep hm (fun hs => has_ne hcs (own_row hv hs.2) he2 rfl) (fun k hk hs => byteRow_ne hk (own_row hv hs.2) he) (fun k hk hs => by omega)

theorem mod_set5 {S : Nat → Prop} {a w : World} {g : Nat} (h : Mod S a w) (hg : S g ∨ a.heap.size ≤ g) (u0 u1 u2 u3 u4 : Value) : Mod S a (((((w.setCell ⟨g, 0, none⟩ u0).setCell ⟨g, 1, none⟩ u1).setCell ⟨g, 2, none⟩ u2).setCell ⟨g, 3, none⟩ u3).setCell ⟨g, 4, none⟩ u4) :=
  ((((h.setCell (p := ⟨g, 0, none⟩) hg _).setCell (p := ⟨g, 1, none⟩) hg _).setCell (p := ⟨g, 2, none⟩) hg _).setCell (p := ⟨g, 3, none⟩) hg _).setCell (p := ⟨g, 4, none⟩) hg _

def treeL (L : List UInt8) : ByteArray := ⟨(tId L ⟨[0x4b], false, 1⟩).1.toArray⟩
def rdPars (L : List UInt8) : Nat → RS → List ByteArray → RS × List ByteArray
  | 0, x, l => (x, l)
  | n + 1, x, l => if x.bad then (x, l) else rdPars L n ((tId L x).2.ask (!Lib.containsS l ⟨(tId L x).1.toArray⟩)) (l ++ [⟨(tId L x).1.toArray⟩])
theorem rdPars_stop (L : List UInt8) (n : Nat) (x : RS) (l : List ByteArray) (h : n = 0 ∨ x.bad = true) : rdPars L n x l = (x, l) := by
  cases n with
  | zero => rfl
  | succ n => rcases h with h | h; cases h; rw [rdPars, if_pos h]
theorem rdPars_go (L : List UInt8) (n : Nat) (x : RS) (l : List ByteArray) (h : x.bad = false) : rdPars L (n + 1) x l = rdPars L n ((tId L x).2.ask (!Lib.containsS l ⟨(tId L x).1.toArray⟩)) (l ++ [⟨(tId L x).1.toArray⟩]) := by
  rw [rdPars, if_neg (by rw [h]; decide)]
def rdCP (L : List UInt8) : RS × List ByteArray := rdPars L (tInt L 0 8 (tId L ⟨[0x4b], false, 1⟩).2).1.toNat (tInt L 0 8 (tId L ⟨[0x4b], false, 1⟩).2).2 []
def rdWho (L : List UInt8) : List UInt8 × RS := tText L 0 64 (rdCP L).1
def rdTime (L : List UInt8) : Int × RS := tInt L 0 4611686018427387904 (rdWho L).2
def rdNote (L : List UInt8) : List UInt8 × RS := tText L 0 1024 (rdTime L).2
def rdCom (L : List UInt8) : Com := ⟨treeL L, (rdCP L).2, ⟨(rdWho L).1.toArray⟩, (rdTime L).1, ⟨(rdNote L).1.toArray⟩⟩
def okCommit (L : List UInt8) : Bool := wholeB L (rdNote L).2
def com0 : Com := ⟨⟨#[]⟩, [], ⟨#[]⟩, 0, ⟨#[]⟩⟩
def outCommit (L : List UInt8) : Com := if okCommit L = true then rdCom L else com0
def comV (C : Com) (v : Value) : Array Value := #[.string C.tree, v, .string C.who, .int .i64 C.time, .string C.note]

set_option maxRecDepth 100000 in
theorem str_t : SliceT Tryz.prog 22 9 1 16 := ⟨Tryz.underlying22, by decide, _, .string ByteArray.empty, rfl, rfl, rfl, rfl, rfl⟩

set_option maxRecDepth 100000 in
set_option maxHeartbeats 4000000 in
theorem takeCommit_calls (s : ByteArray) (w : World) (hs : s.size ≤ 100000000) :
    Calls Tryz.prog 38 #[.string s] w fun e w' => ∃ v, e = .returned (.tuple #[.agg (comV (outCommit s.data.toList) v), errV (okCommit s.data.toList)]) ∧ w'.ownsRow w.heap.size 9 1 v (outCommit s.data.toList).pars.length ((outCommit s.data.toList).pars.map .string) ∧ Mod (fun _ => False) w w' := by
  have hL : s.data.toList.length ≤ 100000000 := by simpa using hs
  have H0 := Lib.hid (reads_rd s 75 (w.alloc (.cells #[.string ⟨#[]⟩, .slice none 0 0, .string ⟨#[]⟩, .int .i64 0, .string ⟨#[]⟩] 64)) hs)
  clear hs
  generalize s.data.toList = L at *
  obtain ⟨OC, hOC⟩ : ∃ OC, outCommit L = OC := ⟨_, rfl⟩
  rw [hOC]
  have HOC1 : Hid (okCommit L = true → OC = rdCom L) := Lib.hid (fun h => by rw [← hOC]; unfold outCommit; rw [if_pos h])
  have HOC2 : Hid (okCommit L = false → OC = com0) := Lib.hid (fun h => by rw [← hOC]; unfold outCommit; rw [if_neg (by rw [h]; decide)])
  clear hOC
  go_enter Tryz.func38, Tryz.ntmps38
  go_wp2_with fail
  refine H0.out.mono ?_
  rintro e w1 ⟨b, rfl, h1⟩
  have hR := Has.new w [.string ⟨#[]⟩, .slice none 0 0, .string ⟨#[]⟩, .int .i64 0, .string ⟨#[]⟩] 64
  have hM0 := (Mod.refl (fun _ => False) w).alloc (.cells #[.string ⟨#[]⟩, .slice none 0 0, .string ⟨#[]⟩, .int .i64 0, .string ⟨#[]⟩] 64)
  have hsz : w.heap.size + 1 = (w.alloc (.cells #[.string ⟨#[]⟩, .slice none 0 0, .string ⟨#[]⟩, .int .i64 0, .string ⟨#[]⟩] 64)).heap.size := by simp
  clear H0
  generalize w.alloc (.cells #[.string ⟨#[]⟩, .slice none 0 0, .string ⟨#[]⟩, .int .i64 0, .string ⟨#[]⟩] 64) = w0 at *
  have HR0 := Lib.hid hR
  have HM0 := Lib.hid hM0
  have HSZ := Lib.hid hsz
  have H1 := Lib.hid h1
  clear h1 hR hM0 hsz
  go_wp2_with fail
  refine (id_rd H1.out (fun _ => by simp) hL).mono ?_
  rintro e w2 ⟨rfl, h2, _⟩
  have hn1 := tId_l L ⟨[0x4b], false, 1⟩
  have hdef : rdCP L = rdPars L (tInt L 0 8 (tId L ⟨[0x4b], false, 1⟩).2).1.toNat (tInt L 0 8 (tId L ⟨[0x4b], false, 1⟩).2).2 [] := rfl
  have htr : (⟨(tId L ⟨[0x4b], false, 1⟩).1.toArray⟩ : ByteArray) = treeL L := rfl
  rw [htr]
  generalize (tId L ⟨[0x4b], false, 1⟩).2 = xa at *
  have HN1 := Lib.hid hn1
  have HDEF := Lib.hid hdef
  have H2 := Lib.hid h2
  clear hn1 hdef h2 H1 htr
  go_wp2_with fail
  refine (int_rd (H2.out.alloc _) 0 8 (fun h => by have := (HN1.out h).2; simp at this; omega) hL).mono ?_
  rintro e w3 ⟨rfl, h3, hm3⟩
  have hgb : w2.heap.size ≠ b := by
    obtain ⟨cs2, hcs2⟩ := H2.out.has
    have := hcs2.lt; omega
  have HGB := Lib.hid hgb
  have HGZ := Lib.hid H2.out.mod.size
  have hG3 := hm3.has (Has.new w2 [.string (treeL L), .slice none 0 0, .string ⟨#[]⟩, .int .i64 0, .string ⟨#[]⟩] 64) (by decide) hgb
  have HG3 := Lib.hid hG3
  have hn := tInt_l L 0 8 xa
  have hin : In64 (tInt L 0 8 xa).1 := tInt_in L 0 8 _
  generalize (tInt L 0 8 xa).1 = n at *
  generalize (tInt L 0 8 xa).2 = x1 at *
  have HN : Hid (x1.bad = false → x1.l.length ≤ 100 ∧ 0 ≤ n ∧ n ≤ 8) := Lib.hid (fun h => by
    have h1 := hn h
    have h2 := (HN1.out h1.1).2
    simp only [List.length_cons, List.length_nil] at h2
    omega)
  have H3 := Lib.hid h3
  unfold In64 at hin
  have hv0 : w3.ownsRow w0.heap.size 9 1 (.slice none 0 0) ([] : List ByteArray).length (([] : List ByteArray).map Value.string) := World.ownsRow_nil _ _ _ _
  have HV0 := Lib.hid hv0
  clear hv0 hn h3 hm3 hgb hG3 HN1 H2
  go_wp2_with fail
  go_loopw [6] (fun m wr => ∃ (z : Int) (x : RS) (l : List ByteArray) (v : Value), m = .int .i64 z ∧ (-9223372036854775808 ≤ z ∧ z ≤ 9223372036854775807) ∧ (x.bad = false → (l.length : Int) + z ≤ 8 ∧ x.l.length ≤ 100 + 32 * l.length) ∧ l.length ≤ 8 ∧
    Hid (rdCP L = rdPars L z.toNat x l) ∧ Hid (Rd w0 b L x wr) ∧ Hid (wr.ownsRow w0.heap.size 9 1 v l.length (l.map .string)) ∧ Hid (Has wr w2.heap.size [.string (treeL L), v, .string ⟨#[]⟩, .int .i64 0, .string ⟨#[]⟩] 64)) (fun m _ => (intOf m).toNat)
  case atStart =>
    refine ⟨n, x1, [], .slice none 0 0, by go_num, ⟨by omega, by omega⟩, fun hb => ?_, by simp, HDEF, H3, HV0, HG3⟩
    have h := HN.out hb
    simp only [List.length_nil]
    omega
  case round =>
    obtain ⟨z, x, l, v, rfl, hz, hx, hl, HD, HR, HV, HG⟩ := hrel
    have c1 := HR.out.cell1
    by_cases hb : x.bad = true
    · have HD2 : Hid (rdCP L = (x, l)) := Lib.hid (by rw [HD.out, rdPars_stop _ _ _ _ (.inr hb)])
      rw [hb] at c1
      by_cases i1 : 0 < z
      ·
        have hpl : x.bad = false → x.l.length ≤ 1000 := fun h => by have := (hx h).2; omega
        have HPL := Lib.hid hpl
        clear hx HD hpl
        obtain ⟨A, cp, rfl, _, _, _, _⟩ := own_cells HV.out
        go_wp2_with fail
        refine (text_rd HR.out 0 64 (fun h => by have := HPL.out h; omega) hL).mono ?_
        rintro e w3 ⟨rfl, h3, hm3⟩
        have hV3 := hm3.keepOwn HV.out (by decide) (fun k hk hkb => by
          obtain ⟨cs, hcs⟩ := HR.out.has
          exact has_ne hcs (own_row HV.out hk) (by decide) hkb)
        have hG3 := hm3.has HG.out (by decide) HGB.out
        have g2 := hG3.cell (o := 2) rfl
        have f2 := hG3.frozen 2
        have e1 : (⟨(tText L 0 64 x).1.toArray⟩ : ByteArray) = (rdCom L).who := by unfold rdCom rdWho; rw [HD2.out]
        have e2 : (tText L 0 64 x).2 = (rdWho L).2 := by unfold rdWho; rw [HD2.out]
        have hb3 := tText_l L 0 64 x (by omega)
        rw [e1]
        rw [e2] at h3 hb3
        have HB3 : Hid ((rdWho L).2.bad = false → (rdWho L).2.l.length ≤ 2000) := Lib.hid (fun h => by have h1 := hb3 h; have := HPL.out h1.1; omega)
        have H3 := Lib.hid (h3.store hG3 (by decide) HGB.out HGZ.out 2 (.string (rdCom L).who))
        have HV3 := Lib.hid (own_store hV3 hG3 (by decide) 2 (.string (rdCom L).who))
        have HG3 := Lib.hid (hG3.set 2 (.string (rdCom L).who))
        clear h3 hm3 hV3 hG3 e1 e2 hb3
        go_wp2_with fail
        refine (int_rd H3.out 0 4611686018427387904 (fun h => by have := HB3.out h; omega) hL).mono ?_
        rintro e w4 ⟨rfl, h4, hm4⟩
        have hV4 := hm4.keepOwn HV3.out (by decide) (fun k hk hkb => by
          obtain ⟨cs, hcs⟩ := H3.out.has
          exact has_ne hcs (own_row HV3.out hk) (by decide) hkb)
        have hG4 := hm4.has HG3.out (by decide) HGB.out
        have g2 := hG4.cell (o := 3) rfl
        have f2 := hG4.frozen 3
        have hb4 := tInt_l L 0 4611686018427387904 (rdWho L).2
        have e1 : (tInt L 0 4611686018427387904 (rdWho L).2).1 = (rdCom L).time := rfl
        have e2 : (tInt L 0 4611686018427387904 (rdWho L).2).2 = (rdTime L).2 := rfl
        rw [e1]
        rw [e2] at h4 hb4
        have HB4 : Hid ((rdTime L).2.bad = false → (rdTime L).2.l.length ≤ 3000) := Lib.hid (fun h => by have h1 := hb4 h; have := HB3.out h1.1; omega)
        have H4 := Lib.hid (h4.store hG4 (by decide) HGB.out HGZ.out 3 (.int .i64 (rdCom L).time))
        have HV4 := Lib.hid (own_store hV4 hG4 (by decide) 3 (.int .i64 (rdCom L).time))
        have HG4 := Lib.hid (hG4.set 3 (.int .i64 (rdCom L).time))
        clear h4 hm4 hV4 hG4 e1 e2 hb4 H3 HV3 HG3
        go_wp2_with fail
        refine (text_rd H4.out 0 1024 (fun h => by have := HB4.out h; omega) hL).mono ?_
        rintro e w5 ⟨rfl, h5, hm5⟩
        have hV5 := hm5.keepOwn HV4.out (by decide) (fun k hk hkb => by
          obtain ⟨cs, hcs⟩ := H4.out.has
          exact has_ne hcs (own_row HV4.out hk) (by decide) hkb)
        have hG5 := hm5.has HG4.out (by decide) HGB.out
        have g2 := hG5.cell (o := 4) rfl
        have f2 := hG5.frozen 4
        have e1 : (⟨(tText L 0 1024 (rdTime L).2).1.toArray⟩ : ByteArray) = (rdCom L).note := rfl
        have e2 : (tText L 0 1024 (rdTime L).2).2 = (rdNote L).2 := rfl
        rw [e1]
        rw [e2] at h5
        have h5' := h5.store hG5 (by decide) HGB.out HGZ.out 4 (.string (rdCom L).note)
        have HV5 := Lib.hid (own_store hV5 hG5 (by decide) 4 (.string (rdCom L).note))
        have HG5 := Lib.hid (hG5.set 4 (.string (rdCom L).note))
        have hW := whole_rd h5'
        rw [show wholeB L (rdNote L).2 = okCommit L from rfl] at hW
        have HW := Lib.hid hW
        have HM5 := Lib.hid h5'.mod
        have ep : (rdCom L).pars = l := by unfold rdCom; rw [HD2.out]
        have EP := Lib.hid ep
        have et : (rdCom L).tree = treeL L := rfl
        have ET := Lib.hid et
        clear h5 hm5 hV5 hG5 e1 e2 h5' hW ep et H4 HV4 HG4
        generalize rdCom L = RC at *
        go_wp2_with fail
        cases hk : okCommit L with
        | true =>
          have HOK := Lib.hid hk
          rw [hk] at HW
          clear hk
          refine HW.out.mono ?_
          rintro e w7 ⟨rfl, hm7⟩
          have HV7 := Lib.hid (own_keep HV5.out hm7 (fun _ _ _ h => h))
          have hG7 := HG5.out.keep hm7 (fun h => h)
          have z0 := hG7.cell (o := 0) rfl
          have z1 := hG7.cell (o := 1) rfl
          have z2 := hG7.cell (o := 2) rfl
          have z3 := hG7.cell (o := 3) rfl
          have z4 := hG7.cell (o := 4) rfl
          have hM7 := Mod.trans HM5.out hm7 (fun _ _ h => h)
          have hR7 := HR0.out.keep hM7 (fun h => h)
          have k0 := hR7.frozen 0
          have k1 := hR7.frozen 1
          have k2 := hR7.frozen 2
          have k3 := hR7.frozen 3
          have k4 := hR7.frozen 4
          have q0 := hR7.cell (o := 0) rfl
          have q1 := hR7.cell (o := 1) rfl
          have q2 := hR7.cell (o := 2) rfl
          have q3 := hR7.cell (o := 3) rfl
          have q4 := hR7.cell (o := 4) rfl
          have HM7 := Lib.hid (Mod.trans HM0.out hM7 (fun _ _ h => h))
          clear hm7 hM7 hR7 hG7
          go_wp2_with fail
          refine bodyPost_ret (v := .tuple #[.agg #[.string (treeL L), .slice A l.length cp, .string RC.who, .int .i64 RC.time, .string RC.note], .int .i64 0]) (by simp [results, Tryz.results38, go_sem, q0, q1, q2, q3, q4]) rfl ⟨.slice A l.length cp, by rw [HOC1.out HOK.out, ← ET.out, HOK.out]; rfl, ?_, ?_⟩
          · rw [HOC1.out HOK.out, EP.out]
            exact own_base (own_keep (S := fun k => k = w.heap.size) HV7.out (mod_set5 (S := fun k => k = w.heap.size) (Mod.refl _ _) (.inl rfl) _ _ _ _ _) (fun k hk _ h => by have := HSZ.out; omega)) (by have := HSZ.out; omega)
          · exact mod_set5 HM7.out (.inr (Nat.le_refl _)) _ _ _ _ _
        | false =>
          have HOK := Lib.hid hk
          rw [hk] at HW
          clear hk
          refine HW.out.mono ?_
          rintro e w7 ⟨rfl, hm7⟩
          have hM7 := Mod.trans HM5.out hm7 (fun _ _ h => h)
          have hR7 := HR0.out.keep hM7 (fun h => h)
          have k0 := hR7.frozen 0
          have k1 := hR7.frozen 1
          have k2 := hR7.frozen 2
          have k3 := hR7.frozen 3
          have k4 := hR7.frozen 4
          have q0 := hR7.cell (o := 0) rfl
          have q1 := hR7.cell (o := 1) rfl
          have q2 := hR7.cell (o := 2) rfl
          have q3 := hR7.cell (o := 3) rfl
          have q4 := hR7.cell (o := 4) rfl
          have HM7 := Lib.hid (Mod.trans HM0.out hM7 (fun _ _ h => h))
          clear hm7 hM7 hR7
          go_wp2_with fail
          refine bodyPost_ret (v := .tuple #[.agg #[.string ⟨#[]⟩, .slice none 0 0, .string ⟨#[]⟩, .int .i64 0, .string ⟨#[]⟩], .int .i64 81]) (by simp [results, Tryz.results38, go_sem, q0, q1, q2, q3, q4]) rfl ⟨.slice none 0 0, by rw [HOC2.out HOK.out, HOK.out]; rfl, ?_, ?_⟩
          · rw [HOC2.out HOK.out]
            exact World.ownsRow_nil _ _ _ _
          · exact mod_set5 HM7.out (.inr (Nat.le_refl _)) _ _ _ _ _
      ·
        have hpl : x.bad = false → x.l.length ≤ 1000 := fun h => by have := (hx h).2; omega
        have HPL := Lib.hid hpl
        clear hx HD hpl
        obtain ⟨A, cp, rfl, _, _, _, _⟩ := own_cells HV.out
        go_wp2_with fail
        refine (text_rd HR.out 0 64 (fun h => by have := HPL.out h; omega) hL).mono ?_
        rintro e w3 ⟨rfl, h3, hm3⟩
        have hV3 := hm3.keepOwn HV.out (by decide) (fun k hk hkb => by
          obtain ⟨cs, hcs⟩ := HR.out.has
          exact has_ne hcs (own_row HV.out hk) (by decide) hkb)
        have hG3 := hm3.has HG.out (by decide) HGB.out
        have g2 := hG3.cell (o := 2) rfl
        have f2 := hG3.frozen 2
        have e1 : (⟨(tText L 0 64 x).1.toArray⟩ : ByteArray) = (rdCom L).who := by unfold rdCom rdWho; rw [HD2.out]
        have e2 : (tText L 0 64 x).2 = (rdWho L).2 := by unfold rdWho; rw [HD2.out]
        have hb3 := tText_l L 0 64 x (by omega)
        rw [e1]
        rw [e2] at h3 hb3
        have HB3 : Hid ((rdWho L).2.bad = false → (rdWho L).2.l.length ≤ 2000) := Lib.hid (fun h => by have h1 := hb3 h; have := HPL.out h1.1; omega)
        have H3 := Lib.hid (h3.store hG3 (by decide) HGB.out HGZ.out 2 (.string (rdCom L).who))
        have HV3 := Lib.hid (own_store hV3 hG3 (by decide) 2 (.string (rdCom L).who))
        have HG3 := Lib.hid (hG3.set 2 (.string (rdCom L).who))
        clear h3 hm3 hV3 hG3 e1 e2 hb3
        go_wp2_with fail
        refine (int_rd H3.out 0 4611686018427387904 (fun h => by have := HB3.out h; omega) hL).mono ?_
        rintro e w4 ⟨rfl, h4, hm4⟩
        have hV4 := hm4.keepOwn HV3.out (by decide) (fun k hk hkb => by
          obtain ⟨cs, hcs⟩ := H3.out.has
          exact has_ne hcs (own_row HV3.out hk) (by decide) hkb)
        have hG4 := hm4.has HG3.out (by decide) HGB.out
        have g2 := hG4.cell (o := 3) rfl
        have f2 := hG4.frozen 3
        have hb4 := tInt_l L 0 4611686018427387904 (rdWho L).2
        have e1 : (tInt L 0 4611686018427387904 (rdWho L).2).1 = (rdCom L).time := rfl
        have e2 : (tInt L 0 4611686018427387904 (rdWho L).2).2 = (rdTime L).2 := rfl
        rw [e1]
        rw [e2] at h4 hb4
        have HB4 : Hid ((rdTime L).2.bad = false → (rdTime L).2.l.length ≤ 3000) := Lib.hid (fun h => by have h1 := hb4 h; have := HB3.out h1.1; omega)
        have H4 := Lib.hid (h4.store hG4 (by decide) HGB.out HGZ.out 3 (.int .i64 (rdCom L).time))
        have HV4 := Lib.hid (own_store hV4 hG4 (by decide) 3 (.int .i64 (rdCom L).time))
        have HG4 := Lib.hid (hG4.set 3 (.int .i64 (rdCom L).time))
        clear h4 hm4 hV4 hG4 e1 e2 hb4 H3 HV3 HG3
        go_wp2_with fail
        refine (text_rd H4.out 0 1024 (fun h => by have := HB4.out h; omega) hL).mono ?_
        rintro e w5 ⟨rfl, h5, hm5⟩
        have hV5 := hm5.keepOwn HV4.out (by decide) (fun k hk hkb => by
          obtain ⟨cs, hcs⟩ := H4.out.has
          exact has_ne hcs (own_row HV4.out hk) (by decide) hkb)
        have hG5 := hm5.has HG4.out (by decide) HGB.out
        have g2 := hG5.cell (o := 4) rfl
        have f2 := hG5.frozen 4
        have e1 : (⟨(tText L 0 1024 (rdTime L).2).1.toArray⟩ : ByteArray) = (rdCom L).note := rfl
        have e2 : (tText L 0 1024 (rdTime L).2).2 = (rdNote L).2 := rfl
        rw [e1]
        rw [e2] at h5
        have h5' := h5.store hG5 (by decide) HGB.out HGZ.out 4 (.string (rdCom L).note)
        have HV5 := Lib.hid (own_store hV5 hG5 (by decide) 4 (.string (rdCom L).note))
        have HG5 := Lib.hid (hG5.set 4 (.string (rdCom L).note))
        have hW := whole_rd h5'
        rw [show wholeB L (rdNote L).2 = okCommit L from rfl] at hW
        have HW := Lib.hid hW
        have HM5 := Lib.hid h5'.mod
        have ep : (rdCom L).pars = l := by unfold rdCom; rw [HD2.out]
        have EP := Lib.hid ep
        have et : (rdCom L).tree = treeL L := rfl
        have ET := Lib.hid et
        clear h5 hm5 hV5 hG5 e1 e2 h5' hW ep et H4 HV4 HG4
        generalize rdCom L = RC at *
        go_wp2_with fail
        cases hk : okCommit L with
        | true =>
          have HOK := Lib.hid hk
          rw [hk] at HW
          clear hk
          refine HW.out.mono ?_
          rintro e w7 ⟨rfl, hm7⟩
          have HV7 := Lib.hid (own_keep HV5.out hm7 (fun _ _ _ h => h))
          have hG7 := HG5.out.keep hm7 (fun h => h)
          have z0 := hG7.cell (o := 0) rfl
          have z1 := hG7.cell (o := 1) rfl
          have z2 := hG7.cell (o := 2) rfl
          have z3 := hG7.cell (o := 3) rfl
          have z4 := hG7.cell (o := 4) rfl
          have hM7 := Mod.trans HM5.out hm7 (fun _ _ h => h)
          have hR7 := HR0.out.keep hM7 (fun h => h)
          have k0 := hR7.frozen 0
          have k1 := hR7.frozen 1
          have k2 := hR7.frozen 2
          have k3 := hR7.frozen 3
          have k4 := hR7.frozen 4
          have q0 := hR7.cell (o := 0) rfl
          have q1 := hR7.cell (o := 1) rfl
          have q2 := hR7.cell (o := 2) rfl
          have q3 := hR7.cell (o := 3) rfl
          have q4 := hR7.cell (o := 4) rfl
          have HM7 := Lib.hid (Mod.trans HM0.out hM7 (fun _ _ h => h))
          clear hm7 hM7 hR7 hG7
          go_wp2_with fail
          refine bodyPost_ret (v := .tuple #[.agg #[.string (treeL L), .slice A l.length cp, .string RC.who, .int .i64 RC.time, .string RC.note], .int .i64 0]) (by simp [results, Tryz.results38, go_sem, q0, q1, q2, q3, q4]) rfl ⟨.slice A l.length cp, by rw [HOC1.out HOK.out, ← ET.out, HOK.out]; rfl, ?_, ?_⟩
          · rw [HOC1.out HOK.out, EP.out]
            exact own_base (own_keep (S := fun k => k = w.heap.size) HV7.out (mod_set5 (S := fun k => k = w.heap.size) (Mod.refl _ _) (.inl rfl) _ _ _ _ _) (fun k hk _ h => by have := HSZ.out; omega)) (by have := HSZ.out; omega)
          · exact mod_set5 HM7.out (.inr (Nat.le_refl _)) _ _ _ _ _
        | false =>
          have HOK := Lib.hid hk
          rw [hk] at HW
          clear hk
          refine HW.out.mono ?_
          rintro e w7 ⟨rfl, hm7⟩
          have hM7 := Mod.trans HM5.out hm7 (fun _ _ h => h)
          have hR7 := HR0.out.keep hM7 (fun h => h)
          have k0 := hR7.frozen 0
          have k1 := hR7.frozen 1
          have k2 := hR7.frozen 2
          have k3 := hR7.frozen 3
          have k4 := hR7.frozen 4
          have q0 := hR7.cell (o := 0) rfl
          have q1 := hR7.cell (o := 1) rfl
          have q2 := hR7.cell (o := 2) rfl
          have q3 := hR7.cell (o := 3) rfl
          have q4 := hR7.cell (o := 4) rfl
          have HM7 := Lib.hid (Mod.trans HM0.out hM7 (fun _ _ h => h))
          clear hm7 hM7 hR7
          go_wp2_with fail
          refine bodyPost_ret (v := .tuple #[.agg #[.string ⟨#[]⟩, .slice none 0 0, .string ⟨#[]⟩, .int .i64 0, .string ⟨#[]⟩], .int .i64 81]) (by simp [results, Tryz.results38, go_sem, q0, q1, q2, q3, q4]) rfl ⟨.slice none 0 0, by rw [HOC2.out HOK.out, HOK.out]; rfl, ?_, ?_⟩
          · rw [HOC2.out HOK.out]
            exact World.ownsRow_nil _ _ _ _
          · exact mod_set5 HM7.out (.inr (Nat.le_refl _)) _ _ _ _ _
    · have hb0 : x.bad = false := by simpa using hb
      rw [hb0] at c1
      by_cases i1 : 0 < z
      · have i2 : 1 ≤ z := by omega
        obtain ⟨hx1, hx2⟩ := hx hb0
        have hstep : rdCP L = rdPars L (z - 1).toNat ((tId L x).2.ask (!Lib.containsS l ⟨(tId L x).1.toArray⟩)) (l ++ [⟨(tId L x).1.toArray⟩]) := by
          rw [HD.out, show z.toNat = (z - 1).toNat + 1 by omega, rdPars_go _ _ _ _ hb0]
        have HST := Lib.hid hstep
        have HT1 := Lib.hid (tId_l L x)
        clear hb hx hstep HD
        obtain ⟨A, cp, rfl, hcp, hcl, _, _⟩ := own_cells HV.out
        clear hcl
        go_wp2_with fail
        refine (id_rd HR.out (fun _ => by omega) hL).mono ?_
        rintro e w4 ⟨rfl, h4, hm4⟩
        have hV4 := hm4.keepOwn HV.out (by decide) (fun k hk hkb => by
          obtain ⟨cs, hcs⟩ := HR.out.has
          exact has_ne hcs (own_row HV.out hk) (by decide) hkb)
        have hG4 := hm4.has HG.out (by decide) HGB.out
        generalize (⟨(tId L x).1.toArray⟩ : ByteArray) = p at *
        generalize (tId L x).2 = x4 at *
        obtain ⟨A', cp', he, _, hcl4, _, _⟩ := own_cells hV4
        obtain ⟨rfl, rfl⟩ : A = A' ∧ cp = cp' := by simpa using he
        have hCT := contains_calls A cp l p w4.drew (hcl4.drewN 1) (by omega)
        have x1 := hG4.cell (o := 1) rfl
        have hgl := hG4.lt
        have fv := fun (w' : World) (h : Mod (SR b (.slice A l.length cp) w4) w4.drew w') => (h.cell (p := ⟨w2.heap.size, 1, none⟩) hgl (not_SR hG4 HGB.out (by decide) hV4 (by decide))).trans x1
        have HCT := Lib.hid hCT
        have HV4 := Lib.hid hV4
        have HG4 := Lib.hid hG4
        have H4 := Lib.hid h4
        clear hCT hV4 hG4 h4 hm4 hcl4 he
        go_wp2_with fail
        refine region_mS (SR b (.slice A l.length cp) w4) (by kernel_rfl) ?_
        simp only [List.length_cons, List.length_nil, List.replicate]
        refine take0S (v := ?v1) (oi := ?o1) 0 ?hi1 (by kernel_rfl) (by kernel_rfl) (by kernel_rfl) ?hq1 ?hy1 ?_
        case hi1 => (simp only [List.getElem?_toArray, List.getElem?_cons_zero, List.getElem?_cons_succ]; rfl)
        case hq1 => exact fun _ _ _ h => h
        case hy1 => first | (refine ry_notS ?_; rfl) | (refine ry_runS (by rfl) (fun w' hw' => ?_); go_simp; try rfl)
        simp only [Act.put, List.setIfInBounds_toArray, List.set_cons_zero, List.set_cons_succ]
        refine take0S (v := ?v2) (oi := ?o2) 1 ?hi2 (by kernel_rfl) (by kernel_rfl) (by kernel_rfl) ?hq2 ?hy2 ?_
        case hi2 => (simp only [List.getElem?_toArray, List.getElem?_cons_zero, List.getElem?_cons_succ]; rfl)
        case hq2 => exact fun _ _ _ h => h
        case hy2 => first | (refine ry_notS ?_; rfl) | (refine ry_runS (by rfl) (fun w' hw' => ?_); go_simp; try rfl)
        simp only [Act.put, List.setIfInBounds_toArray, List.set_cons_zero, List.set_cons_succ]
        refine take0S (v := ?v3) (oi := ?o3) 2 ?hi3 (by kernel_rfl) (by kernel_rfl) (by kernel_rfl) ?hq3 ?hy3 ?_
        case hi3 => (simp only [List.getElem?_toArray, List.getElem?_cons_zero, List.getElem?_cons_succ]; rfl)
        case hq3 => exact fun _ _ _ h => h
        case hy3 => first | (refine ry_notS ?_; rfl) | (refine ry_runS (by rfl) (fun w' hw' => ?_); go_simp; try rfl)
        simp only [Act.put, List.setIfInBounds_toArray, List.set_cons_zero, List.set_cons_succ]
        refine take0S (v := ?v4) (oi := ?o4) 3 ?hi4 (by kernel_rfl) (by kernel_rfl) (by kernel_rfl) ?hq4 ?hy4 ?_
        case hi4 => (simp only [List.getElem?_toArray, List.getElem?_cons_zero, List.getElem?_cons_succ]; rfl)
        case hq4 => exact fun _ _ _ h => h
        case hy4 => first | (refine ry_notS ?_; rfl) | (refine ry_runS (by rfl) (fun w' hw' => ?_); go_simp; try rfl)
        simp only [Act.put, List.setIfInBounds_toArray, List.set_cons_zero, List.set_cons_succ]
        refine take0S (v := ?v5) (oi := ?o5) 4 ?hi5 (by kernel_rfl) (by kernel_rfl) (by kernel_rfl) ?hq5 ?hy5 ?_
        case hi5 => (simp only [List.getElem?_toArray, List.getElem?_cons_zero, List.getElem?_cons_succ]; rfl)
        case hq5 => exact fun _ _ _ h => h
        case hy5 => first | (refine ry_notS ?_; rfl) | (refine ry_runS (by rfl) (fun w' hw' => ?_); go_simp; try rfl)
        simp only [Act.put, List.setIfInBounds_toArray, List.set_cons_zero, List.set_cons_succ]
        refine take0S (v := ?v6) (oi := ?o6) 5 ?hi6 (by kernel_rfl) (by kernel_rfl) (by kernel_rfl) ?hq6 ?hy6 ?_
        case hi6 => (simp only [List.getElem?_toArray, List.getElem?_cons_zero, List.getElem?_cons_succ]; rfl)
        case hq6 => exact fun _ _ _ h => h
        case hy6 => first | (refine ry_notS ?_; rfl) | (refine ry_runS (by rfl) (fun w' hw' => ?_); go_simp; try rfl)
        simp only [Act.put, List.setIfInBounds_toArray, List.set_cons_zero, List.set_cons_succ]
        refine step0S (o := ?o7) 6 (by kernel_rfl) ?hi7 ?hw7 ?_
        case hi7 => (simp only [List.getElem?_toArray, List.getElem?_cons_zero, List.getElem?_cons_succ]; rfl)
        case hw7 => rfl
        go_simp
        refine HCT.out.mono ?_
        rintro e w5 ⟨rfl, hm5⟩
        refine ⟨.inl (hm5.mono fun _ _ h => h.elim), ?_⟩
        refine take0S (v := ?v8) (oi := ?o8) 7 ?hi8 (by kernel_rfl) (by kernel_rfl) (by kernel_rfl) ?hq8 ?hy8 ?_
        case hi8 => (simp only [List.getElem?_toArray, List.getElem?_cons_zero, List.getElem?_cons_succ]; rfl)
        case hq8 => exact fun _ _ _ h => h
        case hy8 => first | (refine ry_notS ?_; rfl) | (refine ry_runS (by rfl) (fun w' hw' => ?_); go_simp; try rfl)
        simp only [Act.put, List.setIfInBounds_toArray, List.set_cons_zero, List.set_cons_succ]
        refine step0S (o := ?o9) 8 (by kernel_rfl) ?hi9 ?hw9 ?_
        case hi9 => (simp only [List.getElem?_toArray, List.getElem?_cons_zero, List.getElem?_cons_succ]; rfl)
        case hw9 => rfl
        go_simp
        refine (ask_rd (H4.out.newer (Mod.of_drew_l hm5)) _).mono ?_
        rintro e w6 ⟨rfl, h6, hm6⟩
        refine ⟨.inl (ModB.inS (ModB.of0 (Mod.of_drew_l hm5)) hm6), ?_⟩
        refine wpAnyM_done (by kernel_rfl) ?_
        have hm46 := ModB.trans (ModB.of0 (Mod.of_drew_l hm5)) hm6
        have hV6 := hm46.keepOwn HV4.out (by decide) (fun k hk hkb => by
          obtain ⟨cs, hcs⟩ := H4.out.has
          exact has_ne hcs (own_row HV4.out hk) (by decide) hkb)
        have hG6 := hm46.has HG4.out (by decide) HGB.out
        have x1 := hG6.cell (o := 1) rfl
        have hgl := hG6.lt
        have HVA := Lib.hid (hV6.alloc (.cells #[.string p] 9))
        have HG6 := Lib.hid hG6
        have H6 := Lib.hid h6
        have hbs : w0.heap.size ≤ w6.heap.size := h6.mod.size
        clear hm46 hV6 hG6 h6 hm6 hm5 fv HV4 HG4 H4
        go_wp2_with (first
          | (at_builtin
             go_must (refine app (.tmp 39) (.tmp 41) str_t w0.heap.size (.slice A l.length cp) l.length (l.map .string) HVA.out ⟨w6.heap.size, 0, none⟩ 1 1 [.string p] rfl rfl rfl rfl rfl (cells_new w6 _ _) (by intro u hu; simp at hu; rcases hu with rfl; rfl) (by omega) (by unfold maxLen; omega) (by simp; omega) ?_; intro v7 w7 ho hm7)
             obtain ⟨A7, c7, rfl, _, _, _, _⟩ := own_cells ho
             have hG7 := (HG6.out.alloc (.cells #[.string p] 9)).keep hm7 (fun hs => has_ne (HG6.out.alloc _) (own_row HVA.out hs.2) (by decide) rfl)
             have h7 : Rd w0 b L ((x4).ask (!Lib.containsS l p)) w7 := (H6.out.alloc (.cells #[.string p] 9)).appended HVA.out (by decide) (by decide) (Nat.le_refl _) hm7
             have y1 := hG7.frozen 1
             have q1 := hG7.cell (o := 1) rfl
             have HG7 := Lib.hid hG7
             have H7 := Lib.hid h7
             have HO := Lib.hid ho
             clear hG7 h7 ho hm7))
        have hv8 := own_store HO.out HG7.out (by decide) 1 (.slice A7 (l.length + 1) c7)
        have hv8' : (w7.setCell ⟨w2.heap.size, 1, none⟩ (.slice A7 (l.length + 1) c7)).ownsRow w0.heap.size 9 1 (.slice A7 (l.length + 1) c7) (l ++ [p]).length ((l ++ [p]).map .string) := by rw [List.length_append, List.map_append]; exact hv8
        have H8 := Lib.hid (H7.out.store HG7.out (by decide) HGB.out HGZ.out 1 (.slice A7 (l.length + 1) c7))
        have HV8 := Lib.hid hv8'
        have HG8 := Lib.hid (HG7.out.set 1 (.slice A7 (l.length + 1) c7))
        have hxl : (x4.ask (!Lib.containsS l p)).bad = false → x4.l.length ≤ x.l.length + 32 := fun h => (HT1.out (by unfold RS.ask at h; simpa using (Bool.or_eq_false_iff.1 h).1)).2
        have HXL := Lib.hid hxl
        clear hv8 hv8' hxl x1 y1 q1 HVA
        have w1 : IntKind.i64.wrap (z - 1) = z - 1 := by rw [IntKind.wrap_i64]; omega
        go_wp2_with fail
        go_roundw
        case rel =>
          refine ⟨z - 1, x4.ask (!Lib.containsS l p), l ++ [p], _, rfl, by omega, fun h => ?_, by simp; omega, HST, H8, HV8, HG8⟩
          have := HXL.out h
          rw [List.length_append, List.length_singleton]
          show _ ∧ x4.l.length ≤ _
          omega
        case measure => simp [intOf]; omega
      · have HD2 : Hid (rdCP L = (x, l)) := Lib.hid (by rw [HD.out, rdPars_stop _ _ _ _ (.inl (by omega))])
        clear hb hb0
        have hpl : x.bad = false → x.l.length ≤ 1000 := fun h => by have := (hx h).2; omega
        have HPL := Lib.hid hpl
        clear hx HD hpl
        obtain ⟨A, cp, rfl, _, _, _, _⟩ := own_cells HV.out
        go_wp2_with fail
        refine (text_rd HR.out 0 64 (fun h => by have := HPL.out h; omega) hL).mono ?_
        rintro e w3 ⟨rfl, h3, hm3⟩
        have hV3 := hm3.keepOwn HV.out (by decide) (fun k hk hkb => by
          obtain ⟨cs, hcs⟩ := HR.out.has
          exact has_ne hcs (own_row HV.out hk) (by decide) hkb)
        have hG3 := hm3.has HG.out (by decide) HGB.out
        have g2 := hG3.cell (o := 2) rfl
        have f2 := hG3.frozen 2
        have e1 : (⟨(tText L 0 64 x).1.toArray⟩ : ByteArray) = (rdCom L).who := by unfold rdCom rdWho; rw [HD2.out]
        have e2 : (tText L 0 64 x).2 = (rdWho L).2 := by unfold rdWho; rw [HD2.out]
        have hb3 := tText_l L 0 64 x (by omega)
        rw [e1]
        rw [e2] at h3 hb3
        have HB3 : Hid ((rdWho L).2.bad = false → (rdWho L).2.l.length ≤ 2000) := Lib.hid (fun h => by have h1 := hb3 h; have := HPL.out h1.1; omega)
        have H3 := Lib.hid (h3.store hG3 (by decide) HGB.out HGZ.out 2 (.string (rdCom L).who))
        have HV3 := Lib.hid (own_store hV3 hG3 (by decide) 2 (.string (rdCom L).who))
        have HG3 := Lib.hid (hG3.set 2 (.string (rdCom L).who))
        clear h3 hm3 hV3 hG3 e1 e2 hb3
        go_wp2_with fail
        refine (int_rd H3.out 0 4611686018427387904 (fun h => by have := HB3.out h; omega) hL).mono ?_
        rintro e w4 ⟨rfl, h4, hm4⟩
        have hV4 := hm4.keepOwn HV3.out (by decide) (fun k hk hkb => by
          obtain ⟨cs, hcs⟩ := H3.out.has
          exact has_ne hcs (own_row HV3.out hk) (by decide) hkb)
        have hG4 := hm4.has HG3.out (by decide) HGB.out
        have g2 := hG4.cell (o := 3) rfl
        have f2 := hG4.frozen 3
        have hb4 := tInt_l L 0 4611686018427387904 (rdWho L).2
        have e1 : (tInt L 0 4611686018427387904 (rdWho L).2).1 = (rdCom L).time := rfl
        have e2 : (tInt L 0 4611686018427387904 (rdWho L).2).2 = (rdTime L).2 := rfl
        rw [e1]
        rw [e2] at h4 hb4
        have HB4 : Hid ((rdTime L).2.bad = false → (rdTime L).2.l.length ≤ 3000) := Lib.hid (fun h => by have h1 := hb4 h; have := HB3.out h1.1; omega)
        have H4 := Lib.hid (h4.store hG4 (by decide) HGB.out HGZ.out 3 (.int .i64 (rdCom L).time))
        have HV4 := Lib.hid (own_store hV4 hG4 (by decide) 3 (.int .i64 (rdCom L).time))
        have HG4 := Lib.hid (hG4.set 3 (.int .i64 (rdCom L).time))
        clear h4 hm4 hV4 hG4 e1 e2 hb4 H3 HV3 HG3
        go_wp2_with fail
        refine (text_rd H4.out 0 1024 (fun h => by have := HB4.out h; omega) hL).mono ?_
        rintro e w5 ⟨rfl, h5, hm5⟩
        have hV5 := hm5.keepOwn HV4.out (by decide) (fun k hk hkb => by
          obtain ⟨cs, hcs⟩ := H4.out.has
          exact has_ne hcs (own_row HV4.out hk) (by decide) hkb)
        have hG5 := hm5.has HG4.out (by decide) HGB.out
        have g2 := hG5.cell (o := 4) rfl
        have f2 := hG5.frozen 4
        have e1 : (⟨(tText L 0 1024 (rdTime L).2).1.toArray⟩ : ByteArray) = (rdCom L).note := rfl
        have e2 : (tText L 0 1024 (rdTime L).2).2 = (rdNote L).2 := rfl
        rw [e1]
        rw [e2] at h5
        have h5' := h5.store hG5 (by decide) HGB.out HGZ.out 4 (.string (rdCom L).note)
        have HV5 := Lib.hid (own_store hV5 hG5 (by decide) 4 (.string (rdCom L).note))
        have HG5 := Lib.hid (hG5.set 4 (.string (rdCom L).note))
        have hW := whole_rd h5'
        rw [show wholeB L (rdNote L).2 = okCommit L from rfl] at hW
        have HW := Lib.hid hW
        have HM5 := Lib.hid h5'.mod
        have ep : (rdCom L).pars = l := by unfold rdCom; rw [HD2.out]
        have EP := Lib.hid ep
        have et : (rdCom L).tree = treeL L := rfl
        have ET := Lib.hid et
        clear h5 hm5 hV5 hG5 e1 e2 h5' hW ep et H4 HV4 HG4
        generalize rdCom L = RC at *
        go_wp2_with fail
        cases hk : okCommit L with
        | true =>
          have HOK := Lib.hid hk
          rw [hk] at HW
          clear hk
          refine HW.out.mono ?_
          rintro e w7 ⟨rfl, hm7⟩
          have HV7 := Lib.hid (own_keep HV5.out hm7 (fun _ _ _ h => h))
          have hG7 := HG5.out.keep hm7 (fun h => h)
          have z0 := hG7.cell (o := 0) rfl
          have z1 := hG7.cell (o := 1) rfl
          have z2 := hG7.cell (o := 2) rfl
          have z3 := hG7.cell (o := 3) rfl
          have z4 := hG7.cell (o := 4) rfl
          have hM7 := Mod.trans HM5.out hm7 (fun _ _ h => h)
          have hR7 := HR0.out.keep hM7 (fun h => h)
          have k0 := hR7.frozen 0
          have k1 := hR7.frozen 1
          have k2 := hR7.frozen 2
          have k3 := hR7.frozen 3
          have k4 := hR7.frozen 4
          have q0 := hR7.cell (o := 0) rfl
          have q1 := hR7.cell (o := 1) rfl
          have q2 := hR7.cell (o := 2) rfl
          have q3 := hR7.cell (o := 3) rfl
          have q4 := hR7.cell (o := 4) rfl
          have HM7 := Lib.hid (Mod.trans HM0.out hM7 (fun _ _ h => h))
          clear hm7 hM7 hR7 hG7
          go_wp2_with fail
          refine bodyPost_ret (v := .tuple #[.agg #[.string (treeL L), .slice A l.length cp, .string RC.who, .int .i64 RC.time, .string RC.note], .int .i64 0]) (by simp [results, Tryz.results38, go_sem, q0, q1, q2, q3, q4]) rfl ⟨.slice A l.length cp, by rw [HOC1.out HOK.out, ← ET.out, HOK.out]; rfl, ?_, ?_⟩
          · rw [HOC1.out HOK.out, EP.out]
            exact own_base (own_keep (S := fun k => k = w.heap.size) HV7.out (mod_set5 (S := fun k => k = w.heap.size) (Mod.refl _ _) (.inl rfl) _ _ _ _ _) (fun k hk _ h => by have := HSZ.out; omega)) (by have := HSZ.out; omega)
          · exact mod_set5 HM7.out (.inr (Nat.le_refl _)) _ _ _ _ _
        | false =>
          have HOK := Lib.hid hk
          rw [hk] at HW
          clear hk
          refine HW.out.mono ?_
          rintro e w7 ⟨rfl, hm7⟩
          have hM7 := Mod.trans HM5.out hm7 (fun _ _ h => h)
          have hR7 := HR0.out.keep hM7 (fun h => h)
          have k0 := hR7.frozen 0
          have k1 := hR7.frozen 1
          have k2 := hR7.frozen 2
          have k3 := hR7.frozen 3
          have k4 := hR7.frozen 4
          have q0 := hR7.cell (o := 0) rfl
          have q1 := hR7.cell (o := 1) rfl
          have q2 := hR7.cell (o := 2) rfl
          have q3 := hR7.cell (o := 3) rfl
          have q4 := hR7.cell (o := 4) rfl
          have HM7 := Lib.hid (Mod.trans HM0.out hM7 (fun _ _ h => h))
          clear hm7 hM7 hR7
          go_wp2_with fail
          refine bodyPost_ret (v := .tuple #[.agg #[.string ⟨#[]⟩, .slice none 0 0, .string ⟨#[]⟩, .int .i64 0, .string ⟨#[]⟩], .int .i64 81]) (by simp [results, Tryz.results38, go_sem, q0, q1, q2, q3, q4]) rfl ⟨.slice none 0 0, by rw [HOC2.out HOK.out, HOK.out]; rfl, ?_, ?_⟩
          · rw [HOC2.out HOK.out]
            exact World.ownsRow_nil _ _ _ _
          · exact mod_set5 HM7.out (.inr (Nat.le_refl _)) _ _ _ _ _
end Obj
end Go.Proofs.YtenamjldkaggcaaGreatDoor
