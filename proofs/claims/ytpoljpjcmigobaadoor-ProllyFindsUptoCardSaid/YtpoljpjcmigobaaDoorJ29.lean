/- Joined texts: ProH. -/
import Derived.Test.YtpoljpjcmigobaaDoorJ26
import Derived.Test.YtpoljpjcmigobaaDoorJ28
/- The walk of the reference's Find. -/
namespace Go.Proofs.YtpoljpjcmigobaaDoor
set_option linter.unusedVariables false
set_option linter.unusedSimpArgs false
open Go.RowKit K Wire
namespace Prolly
open Go.Proofs.YtpoljpjcmigobaaDoor.Obj Go.Proofs.YtpoljpjcmigobaaDoor.Blob

theorem own_len {w : World} {base e size n n' : Nat} {v : Value} {xs xs' : List Value} (hn : n = n') (hx : xs = xs') (h : w.ownsRow base e size v n xs) : w.ownsRow base e size v n' xs' := by subst hn; subst hx; exact h
def FRPost (R : FR) (w : World) (e : Ending) (w' : World) : Prop :=
  ∃ va, e = .returned (.tuple #[.string R.val, .bool R.is, va, .int .i64 R.e]) ∧ w'.ownsRow w.heap.size 9 1 va R.asked.length (R.asked.map .string) ∧ Mod (fun _ => False) w w'
/-- at the head of the loop: the next node to ask -/
structure RLoop (objs : List Ob) (key : ByteArray) (R : FR) (w : World) (bk : Nat) (k : Link) (level : Int) (a : List ByteArray) (f : Nat) (va : Value) (wr : World) : Prop where
  fin : fin objs key f (pnodeOf objs k level) (a ++ [k.id]) = R
  lv : pnL (pnodeOf objs k level) < f
  al : a.length + f ≤ 40
  box : Has wr bk [.string k.last, .string k.id, .int .i64 k.many] 67
  oa : wr.ownsRow w.heap.size 9 1 va a.length (a.map .string)
  mod : Mod (fun _ => False) w wr
  many : In64 k.many ∧ -1 ≤ level ∧ level ≤ 20
set_option maxRecDepth 100000 in
set_option maxHeartbeats 8000000 in
theorem rFind_calls (A : Option Addr) (c : Nat) (objs : List Ob) (hob : ObsOk objs) (root key : ByteArray) (w : World) (hA : Cells w A (objs.flatMap oc)) :
    Calls Tryd.prog 14 #[.slice A objs.length c, .string root, .string key] w (FRPost (findR objs root key) w) := by
  obtain ⟨R, hR⟩ : ∃ R, findR objs root key = R := ⟨_, rfl⟩
  rw [hR]
  unfold findR at hR
  unfold FRPost
  by_cases hk : 1 ≤ key.size ∧ key.size ≤ 64
  · rw [if_pos hk] at hR
    have k1 : ¬ (key.size : Int) < 1 := by omega
    have k2 : ¬ (64 : Int) < (key.size : Int) := by omega
    have hlv := pnL_lv objs (link0 root) (-1)
    have hrl : RLoop objs key R w w.heap.size (link0 root) (-1) [] 30 (.slice none 0 0) (w.alloc (.cells #[.string ⟨#[]⟩, .string root, .int .i64 0] 67)) :=
      ⟨hR, by omega, by simp, Has.new w _ _, World.ownsRow_nil _ _ _ _, (Mod.refl _ _).alloc _, by unfold In64 link0; simp⟩
    have HRL := Lib.hid hrl
    have HA := Lib.hid hA
    clear hR hA hrl hk hlv
    go_enter Tryd.func14, Tryd.ntmps14
    go_wp2_with fail
    go_loopw [10, 12] (fun va lv wr => ∃ (k : Link) (level : Int) (a : List ByteArray) (f : Nat), lv = .int .i64 level ∧ Hid (RLoop objs key R w w.heap.size k level a f va wr)) (fun _ lv wr => if (intOf lv) < 0 then 30 else (intOf lv).toNat)
    case atStart => exact ⟨link0 root, -1, [], 30, rfl, HRL⟩
    case round =>
      obtain ⟨k, level, a, f, rfl, HF⟩ := hrel
      have x0 := HF.out.box.cell (o := 0) rfl
      have x1 := HF.out.box.cell (o := 1) rfl
      have x2 := HF.out.box.cell (o := 2) rfl
      have hal := HF.out.al
      obtain ⟨n, hn⟩ : ∃ n, pnodeOf objs k level = n := ⟨_, rfl⟩
      have hfin := HF.out.fin
      have hlt := HF.out.lv
      rw [hn] at hfin hlt
      have HND := Lib.hid (fun w1 (h : Cells w1 A (objs.flatMap oc)) => rNode_calls A c objs hob k level w1 h HF.out.many.1)
      unfold NodePost at HND
      rw [hn] at HND
      have HN := Lib.hid hn
      have HFIN := Lib.hid hfin
      have hml := HF.out.many
      clear hfin hn
      go_wp2_with (first
        | (at_builtin
           (refine appG (.tmp 27) (.tmp 30) strs_t w.heap.size u10 a.length (a.map .string) (HF.out.oa.alloc (.cells #[.string k.id] 9)) (some ⟨wr.heap.size, 0, none⟩) 1 1 [.string k.id] rfl rfl rfl (by simp [Act.eval]) rfl (cells_lit (by simp)) (by intro u hu; simp at hu; rcases hu with rfl; rfl) (by omega) (by unfold maxLen; omega) (by have := HF.out.mod.size; simp; omega) ?_; intro v7 w7 ho7 hm7 hr7)
           have hb7 := (HF.out.box.alloc (.cells #[.string k.id] 9)).keep hm7 (fun h => absurd rfl (has_ne HF.out.box (own_row HF.out.oa h) (by decide)))
           have hM7 : Mod (fun _ => False) w w7 := Mod.trans (HF.out.mod.alloc (.cells #[.string k.id] 9)) hm7 (fun i hi h => by have := (HF.out.oa.lt i h).1; omega)
           have HB7 := Lib.hid hb7
           have HM7 := Lib.hid hM7
           have HO7 := Lib.hid ho7
           have y0 := hb7.cell (o := 0) rfl
           have y1 := hb7.cell (o := 1) rfl
           have y2 := hb7.cell (o := 2) rfl
           clear hm7 hr7 ho7 hb7 hM7))
      refine (HND.out _ (HA.out.keep HM7.out (fun _ _ h => h))).mono ?_
      rintro e w8 ⟨vp, vk, rfl, hvp, hvk, hm8⟩
      have ho8 : w8.ownsRow w.heap.size 9 1 v7 (a ++ [k.id]).length ((a ++ [k.id]).map .string) := by
        have h := own_keep HO7.out hm8 (fun _ _ _ h => h)
        simpa using h
      have hM8 := Mod.trans HM7.out hm8 (fun _ _ h => h)
      have hB8 := HB7.out.keep hm8 (fun h => h)
      have HO8 := Lib.hid ho8
      have HM8 := Lib.hid hM8
      have HB8 := Lib.hid hB8
      clear ho8 hM8 hB8 y0 y1 y2 x0 x1 x2 HO7 HM7 HB7
      obtain ⟨Ag, cg, rfl, _, _, _, _⟩ := own_cells HO8.out
      cases n with
      | bad e =>
        have he := pnode_bad HN.out
        have b0 : (e == 0) = false := by simp; omega
        have b1 : (e != 0) = true := by simp; omega
        have hfin := HFIN.out
        rw [fin_bad objs key f e _ (by simp only [pnL] at hlt; omega)] at hfin
        subst hfin
        simp only [pnE, pnL, pnP, pnK]
        obtain ⟨Ap, cp, rfl, _, _, _, _⟩ := own_cells hvp
        obtain ⟨Ak, ck, rfl, _, _, _, _⟩ := own_cells hvk
        clear hlt he hvp hvk
        go_wp2_with fail
        refine bodyPost_ret (v := .tuple #[.string ⟨#[]⟩, .bool false, .slice Ag (a ++ [k.id]).length cg, .int .i64 e]) (by simp [results, Tryd.results14, go_sem]) rfl ⟨_, rfl, own_len (by simp) (by simp) (HO8.out.alloc _), HM8.out.alloc _⟩
      | leaf ps =>
        obtain ⟨bb, _, hbb⟩ := pnode_leaf HN.out
        obtain ⟨_, _, _, hpl, hris, hpk⟩ := leaf_facts hbb
        have hfin := HFIN.out
        rw [fin_leaf objs key f ps _ (by simp only [pnL] at hlt; omega)] at hfin
        have HFI := Lib.hid hfin
        have HRI := Lib.hid hris
        have hvp' : w8.ownsRow w7.heap.size 48 2 vp ps.length (ps.flatMap kc) := hvp
        obtain ⟨Ap, cp, rfl, _, hcp, _, _⟩ := own_cells hvp'
        have hvk' : w8.ownsRow w7.heap.size 67 3 vk 0 [] := hvk
        obtain ⟨Ak, ck, rfl, _, _, _, _⟩ := own_cells hvk'
        simp only [pnE, pnL, pnP, pnK]
        have hbn := Has.new w8 [.slice Ap ps.length cp, .int .i64 0, .slice Ak 0 ck] 92
        have hcp9 := hcp.alloc (.cells #[.slice Ap ps.length cp, .int .i64 0, .slice Ak 0 ck] 92)
        have ho9 := HO8.out.alloc (.cells #[.slice Ap ps.length cp, .int .i64 0, .slice Ak 0 ck] 92)
        have hM9 := HM8.out.alloc (.cells #[.slice Ap ps.length cp, .int .i64 0, .slice Ak 0 ck] 92)
        have n0 := hbn.cell (o := 0) rfl
        have n1 := hbn.cell (o := 1) rfl
        have HCP9 := Lib.hid hcp9
        have HO9 := Lib.hid ho9
        have HM9 := Lib.hid hM9
        clear hlt hvp hvp' hvk hvk' hbn hcp9 ho9 hM9 hcp hfin hris hbb
        go_wp2_with fail
        obtain ⟨W9, hW9⟩ : ∃ W9, w8.alloc (.cells #[.slice Ap ps.length cp, .int .i64 0, .slice Ak 0 ck] 92) = W9 := ⟨_, rfl⟩
        rw [hW9] at n0 n1 HCP9 HO9 HM9 ⊢
        clear hW9
        go_loopw [15] (fun i wr => ∃ j : Nat, i = .int .i64 j ∧ j ≤ ps.length ∧ Hid (∀ (q : Nat) (h : q < ps.length), q < j → ps[q].key ≠ key) ∧ wr = W9) (fun i _ => ps.length - (intOf i).toNat)
        case atStart => exact ⟨0, by go_num, by omega, Lib.hid (fun _ _ h => absurd h (Nat.not_lt_zero _)), rfl⟩
        case round =>
          obtain ⟨j, rfl, hj, HNE, rfl⟩ := hrel
          by_cases hjl : j < ps.length
          · have j1 : (j : Int) < (ps.length : Int) := by omega
            have j0 : (0 : Int) ≤ (j : Int) := by omega
            rcases HCP9.out with h | ⟨ba, o, rfl, hcell⟩
            · have := flat_len kc_len ps; rw [h] at this; simp at this; omega
            have y0 := hcell _ _ (flat_get kc_len ps j 0 hjl (by omega))
            have y1 := hcell _ _ (flat_get kc_len ps j 1 hjl (by omega))
            rw [Nat.add_zero] at y0
            rw [← Nat.add_assoc] at y1
            obtain ⟨P, hP⟩ : ∃ P, ps[j] = P := ⟨_, rfl⟩
            rw [hP] at y0 y1
            by_cases he : P.key = key
            · have e1 : (P.key.toList == key.toList) = true := (Lib.bytes_beq_iff _ _).2 he
              have hfin := HFI.out
              rw [(valOf_hit HRI.out hjl (by rw [hP]; exact he)).1, hP] at hfin
              subst hfin
              clear hcell hP he HFI HRI
              go_wp2_with fail
              refine bodyPost_ret (v := .tuple #[.string P.val, .bool true, .slice Ag (a ++ [k.id]).length cg, .int .i64 0]) (by simp [results, Tryd.results14, go_sem]) rfl ⟨_, rfl, own_len (by simp) (by simp) HO9.out, HM9.out⟩
            · have e1 : (P.key.toList == key.toList) = false := (Lib.bytes_beq_false_iff _ _).2 he
              have HN2 : Hid (∀ (q : Nat) (h : q < ps.length), q < j + 1 → ps[q].key ≠ key) := Lib.hid (fun q h hq => by
                by_cases e : q = j
                · subst e; rw [hP]; exact he
                · exact HNE.out q h (by omega))
              clear hcell hP he HNE
              go_wp2_with fail
              go_roundw
              case rel => exact ⟨j + 1, by go_num, by omega, HN2, trivial⟩
              case measure => simp [intOf]; omega
          · have j1 : ¬ (j : Int) < (ps.length : Int) := by omega
            have hfin := HFI.out
            rw [valOf_miss (fun q h => HNE.out q h (by omega))] at hfin
            subst hfin
            clear HNE HFI HRI
            go_wp2_with fail
            refine bodyPost_ret (v := .tuple #[.string ⟨#[]⟩, .bool false, .slice Ag (a ++ [k.id]).length cg, .int .i64 0]) (by simp [results, Tryd.results14, go_sem]) rfl ⟨_, rfl, own_len (by simp) (by simp) HO9.out, HM9.out⟩
      | branch L kids =>
        obtain ⟨bb, _, hbb⟩ := pnode_branch HN.out
        obtain ⟨_, _, _, hLl, hL1, hL2, hkn, hkl, hris, _, hkk⟩ := branch_facts hbb
        have hLv : level < 0 ∨ L = level := by
          rcases hLl with h | h
          · exact .inl h
          · exact .inr h.1
        simp only [pnL] at hlt
        obtain ⟨f, rfl⟩ : ∃ f', f = f' + 1 := ⟨f - 1, by omega⟩
        obtain ⟨I, hI⟩ : ∃ I, below key (kids.map (·.last)) = I := ⟨_, rfl⟩
        have hfin := HFIN.out
        rw [fin_branch objs key f L kids _ I hI] at hfin
        have hil := below_le key (kids.map (·.last))
        rw [List.length_map, hI] at hil
        have HFI := Lib.hid hfin
        have hbe := fun (q : Nat) (hq : q < kids.length) => (⟨fun h => by
          have := below_lt key (kids.map (·.last)) q (by rw [hI]; exact h)
          simpa [List.getD, hq] using this, fun h => by
          have := below_ge hris (i := q) (by rw [hI]; exact h) (by simpa using hq)
          simpa [List.getD, hq] using this⟩ : (q < I → ltS kids[q].last key = true) ∧ (I ≤ q → ltS kids[q].last key = false))
        have HBE := Lib.hid hbe
        have hvk' : w8.ownsRow w7.heap.size 67 3 vk kids.length (kids.flatMap lc) := hvk
        have hvp' : w8.ownsRow w7.heap.size 48 2 vp 0 [] := hvp
        obtain ⟨Ap, cp, rfl, _, _, _, _⟩ := own_cells hvp'
        obtain ⟨Ak, ck, rfl, _, hck, _, _⟩ := own_cells hvk'
        simp only [pnE, pnL, pnP, pnK]
        have hbn := Has.new w8 [.slice Ap 0 cp, .int .i64 L, .slice Ak kids.length ck] 92
        have hck9 := hck.alloc (.cells #[.slice Ap 0 cp, .int .i64 L, .slice Ak kids.length ck] 92)
        have ho9 := HO8.out.alloc (.cells #[.slice Ap 0 cp, .int .i64 L, .slice Ak kids.length ck] 92)
        have hM9 := HM8.out.alloc (.cells #[.slice Ap 0 cp, .int .i64 L, .slice Ak kids.length ck] 92)
        have hB9 := HB8.out.alloc (.cells #[.slice Ap 0 cp, .int .i64 L, .slice Ak kids.length ck] 92)
        have n1 := hbn.cell (o := 1) rfl
        have n2 := hbn.cell (o := 2) rfl
        have HCK9 := Lib.hid hck9
        have HO9 := Lib.hid ho9
        have HM9 := Lib.hid hM9
        have HB9 := Lib.hid hB9
        have l0 : (L == 0) = false := by simp; omega
        have hbnl : w8.heap.size < (w8.alloc (.cells #[.slice Ap 0 cp, .int .i64 L, .slice Ak kids.length ck] 92)).heap.size := hbn.lt
        have hsw8 := HM8.out.size
        have hbl8 := HB8.out.lt
        clear hvp hvp' hvk hvk' hbn hck9 ho9 hM9 hB9 hck hfin hris hbb hbe hI HND
        go_wp2_with fail
        obtain ⟨W9, hW9⟩ : ∃ W9, w8.alloc (.cells #[.slice Ap 0 cp, .int .i64 L, .slice Ak kids.length ck] 92) = W9 := ⟨_, rfl⟩
        rw [hW9] at n1 n2 HCK9 HO9 HM9 HB9 hbnl ⊢
        clear hW9
        go_loopw [16] (fun i wr => ∃ j : Nat, i = .int .i64 j ∧ j ≤ I ∧ wr = W9) (fun i _ => kids.length - (intOf i).toNat)
        case atStart => exact ⟨0, by go_num, by omega, rfl⟩
        case round =>
          obtain ⟨j, rfl, hj, rfl⟩ := hrel
          by_cases hjI : j < I
          · have hjl : j < kids.length := by omega
            have j1 : (j : Int) < (kids.length : Int) := by omega
            have j0 : (0 : Int) ≤ (j : Int) := by omega
            rcases HCK9.out with h | ⟨ba, o, rfl, hcell⟩
            · have := flat_len lc_len kids; rw [h] at this; simp at this; omega
            have y0 := hcell _ _ (flat_get lc_len kids j 0 hjl (by omega))
            rw [Nat.add_zero] at y0
            have e1 : Go.Op.bytesLess kids[j].last.toList key.toList = true := (HBE.out j hjl).1 hjI
            generalize kids[j] = P at y0 e1
            clear hcell
            go_wp2_with fail
            go_roundw
            case rel => exact ⟨j + 1, by go_num, by omega, trivial⟩
            case measure => simp [intOf]; omega
          · obtain rfl : j = I := by omega
            by_cases hjl : j < kids.length
            · have j1 : (j : Int) < (kids.length : Int) := by omega
              have j0 : (0 : Int) ≤ (j : Int) := by omega
              have j2 : ((j : Int) == (kids.length : Int)) = false := by simp; omega
              rcases HCK9.out with h | ⟨ba, o, rfl, hcell⟩
              · have := flat_len lc_len kids; rw [h] at this; simp at this; omega
              have y0 := hcell _ _ (flat_get lc_len kids j 0 hjl (by omega))
              have y1 := hcell _ _ (flat_get lc_len kids j 1 hjl (by omega))
              have y2 := hcell _ _ (flat_get lc_len kids j 2 hjl (by omega))
              rw [Nat.add_zero] at y0
              rw [← Nat.add_assoc] at y1 y2
              have e1 : Go.Op.bytesLess kids[j].last.toList key.toList = false := (HBE.out j hjl).2 (Nat.le_refl _)
              have hfin := HFI.out
              rw [dif_pos hjl] at hfin
              have hkq := hkk _ (List.getElem_mem hjl)
              obtain ⟨P, hP⟩ : ∃ P, kids[j] = P := ⟨_, rfl⟩
              rw [hP] at y0 y1 y2 e1 hfin hkq
              have HP := Lib.hid hP
              have c0 := HB9.out.cell (o := 0) rfl
              have c1 := HB9.out.cell (o := 1) rfl
              have c2 := HB9.out.cell (o := 2) rfl
              have f0 := HB9.out.frozen 0
              have f1 := HB9.out.frozen 1
              have f2 := HB9.out.frozen 2
              have w1 : IntKind.i64.wrap (L - 1) = L - 1 := by rw [IntKind.wrap_i64]; omega
              have hlv2 := pnL_lv objs P (L - 1)
              have hb10 := ((HB9.out.set 0 (.string P.last)).set 1 (.string P.id)).set 2 (.int .i64 P.many)
              have hms := (((Mod.refl (fun g => g = w.heap.size) wr).set1 rfl 0 (.string P.last)).set1 rfl 1 (.string P.id)).set1 rfl 2 (.int .i64 P.many)
              have hrl : RLoop objs key R w w.heap.size P (L - 1) (a ++ [k.id]) f (.slice Ag (a ++ [k.id]).length cg) (((wr.setCell ⟨w.heap.size, 0, none⟩ (.string P.last)).setCell ⟨w.heap.size, 1, none⟩ (.string P.id)).setCell ⟨w.heap.size, 2, none⟩ (.int .i64 P.many)) :=
                ⟨hfin, by omega, by simp; omega, hb10, own_other HO9.out HB9.out (by decide) hms, Mod.trans HM9.out hms (fun i hi e => by omega), ⟨by unfold In64; omega, by omega, by omega⟩⟩
              have HRL2 := Lib.hid hrl
              have n1' := fun (u v x : Value) => (show (((wr.setCell ⟨w.heap.size, 0, none⟩ u).setCell ⟨w.heap.size, 1, none⟩ v).setCell ⟨w.heap.size, 2, none⟩ x).cell? ⟨w8.heap.size, 1, none⟩ = some (.int .i64 L) from (((((Mod.refl (fun g => g = w.heap.size) wr).set1 rfl 0 u).set1 rfl 1 v).set1 rfl 2 x).cell (p := ⟨w8.heap.size, 1, none⟩) hbnl (by show ¬ w8.heap.size = w.heap.size; omega)).trans n1)
              clear hcell hP hfin hb10 hms hrl HF HFI
              go_wp2_with fail
              go_roundw
              case rel => exact ⟨P, L - 1, a ++ [k.id], f, rfl, HRL2⟩
              case measure =>
                show (if (L - 1) < 0 then 30 else (L - 1).toNat) < (if level < 0 then 30 else level.toNat)
                rw [if_neg (by omega)]
                split <;> omega
            · have j1 : ¬ (j : Int) < (kids.length : Int) := by omega
              have j2 : ((j : Int) == (kids.length : Int)) = true := by simp; omega
              have hfin := HFI.out
              rw [dif_neg hjl] at hfin
              subst hfin
              clear HFI
              go_wp2_with fail
              refine bodyPost_ret (v := .tuple #[.string ⟨#[]⟩, .bool false, .slice Ag (a ++ [k.id]).length cg, .int .i64 0]) (by simp [results, Tryd.results14, go_sem]) rfl ⟨_, rfl, own_len (by simp) (by simp) HO9.out, HM9.out⟩
  · rw [if_neg hk] at hR
    subst hR
    clear hA
    by_cases hz : key.size < 1
    · have k1 : (key.size : Int) < 1 := by omega
      clear hk
      go_enter Tryd.func14, Tryd.ntmps14
      go_wp2_with fail
      refine bodyPost_ret (v := .tuple #[.string ⟨#[]⟩, .bool false, .slice none 0 0, .int .i64 2]) (by simp [results, Tryd.results14, go_sem]) rfl ⟨_, rfl, World.ownsRow_nil _ _ _ _, Mod.refl _ _⟩
    · have k1 : ¬ (key.size : Int) < 1 := by omega
      have k2 : (64 : Int) < (key.size : Int) := by omega
      clear hk
      go_enter Tryd.func14, Tryd.ntmps14
      go_wp2_with fail
      refine bodyPost_ret (v := .tuple #[.string ⟨#[]⟩, .bool false, .slice none 0 0, .int .i64 2]) (by simp [results, Tryd.results14, go_sem]) rfl ⟨_, rfl, World.ownsRow_nil _ _ _ _, Mod.refl _ _⟩
end Prolly
end Go.Proofs.YtpoljpjcmigobaaDoor
