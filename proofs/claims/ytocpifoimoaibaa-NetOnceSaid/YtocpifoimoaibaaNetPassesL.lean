/- The law NetPasses: with no fates left, and nothing waiting, Ask answers just what who serves does. -/
import Derived.Test.YtocpifoimoaibaaNetL
import Derived.Test.YtocpifoimoaibaaKg
import Derived.Test.YtocpifoimoaibaaKf
namespace Go.Proofs.Ytocpifoimoaibaa
set_option linter.unusedVariables false
set_option linter.unusedSimpArgs false
open Go.RowKit K
namespace Net

def good (f : Fate) : Bool := decide (0 ≤ f.k) && decide (f.k ≤ 4) && !decide (f.k = 3)
theorem fc_one (f : Fate) : ∀ u ∈ fc f, u.oneCell' = true := by
  intro u hu
  simp only [fc, List.mem_cons, List.not_mem_nil, or_false] at hu
  rcases hu with rfl | rfl | rfl <;> rfl
theorem fcs_snoc (l : List Fate) (f : Fate) : fcs (l ++ [f]) = fcs l ++ fc f := by simp [fcs]
def Goods (l : List Fate) : Prop := ∀ f ∈ l, good f = true
theorem Goods.tail {l : List Fate} (h : Goods l) : Goods l.tail := fun f hf => h f (List.mem_of_mem_tail hf)
theorem goods_hd {l : List Fate} (h : Goods l) : (hd l).k ≠ 3 := by
  cases l with
  | nil => simp [hd, fate0]
  | cons f l =>
    have := h f (by simp)
    simp only [good, Bool.and_eq_true, Bool.not_eq_true', decide_eq_false_iff_not] at this
    exact this.2
theorem goods_bad {l : List Fate} (h : Goods l) : anyBad l = false := by
  unfold anyBad
  rw [List.any_eq_false]
  intro f hf
  have := h f hf
  simp only [good, Bool.and_eq_true, decide_eq_true_eq] at this
  simp only [badF, Bool.or_eq_true, decide_eq_true_eq]
  omega
theorem goes_goods (f : Fate) (s : ByteArray) (h : f.k ≠ 3) : (goes f s []).2 = [] := by
  unfold goes
  (repeat' split) <;> first | rfl | contradiction
theorem asks_goods : ∀ (come : List ByteArray) (out : List ByteArray) (l : List Fate), Goods l →
    (come.foldl echoV.back ⟨out, l, [], ()⟩).wb = [] ∧ (∀ f ∈ (come.foldl echoV.back ⟨out, l, [], ()⟩).l, f ∈ l) ∧ (come.foldl echoV.back ⟨out, l, [], ()⟩).l.length ≤ l.length
  | [], out, l, h => ⟨rfl, fun _ h => h, Nat.le_refl _⟩
  | c :: come, out, l, h => by
    rw [List.foldl_cons]
    have hb : echoV.back ⟨out, l, [], ()⟩ c = ⟨out ++ (goes (hd l) (bang c) []).1, l.tail, [], ()⟩ := by
      unfold Srv.back
      have hs : (echoV.step () c).1 = bang c := rfl
      rw [if_neg (by show ¬ (bang c).size = 0; rw [bang_size]; omega)]
      show (⟨_, _, (goes (hd l) (bang c) []).2, ()⟩ : AS Unit) = _
      rw [goes_goods _ _ (goods_hd h)]
      rfl
    rw [hb]
    have := asks_goods come (out ++ (goes (hd l) (bang c) []).1) l.tail h.tail
    exact ⟨this.1, fun f hf => List.mem_of_mem_tail (this.2.1 f hf), Nat.le_trans this.2.2 (by simp)⟩
theorem ask_plain (s : ByteArray) : echoV.asks (goes (hd []) s []).1 ([] : List Fate).tail [] () = ⟨[bang s], [], [], ()⟩ := by
  have h : goes (hd []) s [] = ([s], []) := by simp [goes, hd, fate0]
  rw [h]
  show echoV.back ⟨[], [], [], ()⟩ s = _
  unfold Srv.back
  rw [if_neg (by show ¬ (bang s).size = 0; rw [bang_size]; omega)]
  have h2 : goes (hd []) (bang s) [] = ([bang s], []) := by simp [goes, hd, fate0]
  show (⟨[] ++ (goes (hd []) (bang s) []).1, _, (goes (hd []) (bang s) []).2, ()⟩ : AS Unit) = _
  rw [h2]; rfl
theorem goes_plain (s : ByteArray) : (goes (hd []) s []).2 = [] := by simp [goes, hd, fate0]

/-- the elder net at the head of the second loop -/
def PassRel (bn k n : Nat) (w wr : World) : Prop := ∃ p l, NetAt wr echoV.f p k l [] [] ∧ p.bn = bn ∧ Goods l ∧ FWf l ∧ l.length + k ≤ n ∧ (∀ i, p.fp i → w.heap.size ≤ i) ∧ Mod (fun _ => False) w wr
def lose2 : List Fate := [⟨1, 0, 0⟩, ⟨1, 0, 0⟩]
/-- both nets at the head of the third loop -/
def PassRel2 (bn bm k : Nat) (w wr : World) : Prop := ∃ p q sent, NetAt wr echoV.f p sent [] [] [] ∧ p.bn = bn ∧ NetAt wr echoV.f q 0 lose2 [] [] ∧ q.bn = bm ∧ sent ≤ k + 50 ∧ (∀ i, p.fp i → w.heap.size ≤ i) ∧ (∀ i, q.fp i → ¬ p.fp i) ∧ Mod (fun _ => False) w wr

theorem ask_went {w w' : World} {p p' : NP} {F' : Nat → Prop} (h : Went echoV.own p p' F0 F' w w') : Mod p.fp w w' := h.mod.mono fun i _ hi => hi.elim id (fun h => h.1.elim)

set_option maxRecDepth 100000 in
set_option maxHeartbeats 4000000 in
theorem netPasses_calls (A0 : Option Addr) (c0 : Nat) (l : List Fate) (A1 : Option Addr) (c1 : Nat) (fr : List ByteArray) (w : World)
    (h0 : FatesIn w A0 c0 l) (h1 : TextsIn w A1 fr ∧ ∀ s ∈ fr, s.size ≤ 140737488351232) :
    Calls Try.prog 4 #[.slice A0 l.length c0, .slice A1 fr.length c1] w fun e w' => e = .returned (.bool true) ∧ Below w.heap.size w w' := by
  have hsz := h0.size
  have H0 := Lib.hid h0
  have H1 := Lib.hid h1
  clear h0 h1
  go_enter Try.func4, Try.ntmps4
  go_wp2_with fail
  refine (shown_calls _).mono ?_
  rintro e w1 ⟨rfl, hm1⟩
  have HM1 := Lib.hid hm1
  clear hm1
  go_wp2_with fail
  go_loopw [6, 7] (fun vl i wr => ∃ (k : Nat) (fl : List Fate), i = .int .i64 k ∧ k ≤ l.length ∧ k ≤ 50 ∧ fl.length ≤ k ∧ Hid (wr.ownsRow w1.heap.size 35 3 vl fl.length (fcs fl)) ∧ Hid (Goods fl ∧ FWf fl) ∧ Hid (Mod (fun _ => False) w1 wr)) (fun _ i _ => l.length - (intOf i).toNat)
  case atStart => exact ⟨0, [], by go_num, by omega, by omega, Nat.le_refl _, Lib.hid (World.ownsRow_nil _ _ _ _), Lib.hid ⟨(fun _ h => by cases h), (fun _ h => by cases h)⟩, Lib.hid (Mod.refl _ _)⟩
  case round =>
    obtain ⟨k, fl, rfl, hk, hk5, hfl, HO, HG, HM⟩ := hrel
    by_cases hlt : k < l.length
    · have i1 : (k : Int) < (l.length : Int) := by omega
      by_cases hlt5 : k < 50
      · have i2 : (k : Int) < 50 := by omega
        have hm0 := Mod.trans HM1.out HM.out (fun _ _ h => h)
        rcases H0.out.cells.keep hm0 (fun _ _ h => h) with h | ⟨b, o, rfl, hcell⟩
        · have := fcs_len l; rw [h] at this; simp at this; omega
        have g := fcs_get l k hlt
        have x0 := hcell _ _ g.1
        have x1 := hcell _ _ g.2.1
        have x2 := hcell _ _ g.2.2
        rw [← Nat.add_assoc] at x1 x2
        have hbl : b < wr.heap.size := World.block_lt_of_cell? wr _ x0
        have hwf := H0.out.wf l[k] (List.getElem_mem hlt)
        generalize l[k] = f at *
        obtain ⟨fk, fa, fb⟩ := f
        dsimp only at *
        have HWF := Lib.hid hwf
        have hz := HM.out.size
        clear hcell g hm0 hwf
        by_cases hg1 : 0 ≤ fk
        · by_cases hg2 : fk ≤ 4
          · by_cases hg3 : fk = 3
            · subst hg3
              go_wp2_with fail
              go_roundw
              case rel => exact ⟨k + 1, fl, by go_num, by omega, by omega, by omega, Lib.hid (HO.out.alloc _), HG, Lib.hid (Mod.alloc HM.out _)⟩
              case measure => simp [intOf]; omega
            · have hgd : good ⟨fk, fa, fb⟩ = true := by simp [good, hg1, hg2, hg3]
              have HGD := Lib.hid hgd
              have q3 : (fk == 3) = false := by simpa using hg3
              clear hgd
              go_wp2_with (first
                | (at_builtin
                   go_must (refine appG (.tmp 44) (.tmp 46) T_fate w1.heap.size _ fl.length (fcs fl) ((HO.out.alloc _).alloc _) _ 1 1 (fc ⟨fk, fa, fb⟩) rfl rfl rfl rfl rfl (cells_lit (by simp)) (fc_one _) (by omega) (by unfold maxLen; omega) (by simp; omega) ?_; intro v2 w2 hown2 hm2 hrow2)
                   have hown3 : w2.ownsRow w1.heap.size 35 3 v2 (fl ++ [(⟨fk, fa, fb⟩ : Fate)]).length (fcs (fl ++ [(⟨fk, fa, fb⟩ : Fate)])) := by
                     rw [List.length_append, fcs_snoc]; exact hown2
                   have HO2 := Lib.hid hown3
                   have HM2 := Lib.hid (Mod.trans ((HM.out.alloc _).alloc _) hm2 (fun i hi h => by have := (HO.out.lt i h).1; omega))
                   clear hown2 hown3 hm2 hrow2))
              go_roundw
              case rel => exact ⟨k + 1, fl ++ [⟨fk, fa, fb⟩], by go_num, by omega, by omega, by simp; omega, HO2, Lib.hid ⟨(fun f hf => by
                rcases List.mem_append.1 hf with h | h
                · exact HG.out.1 f h
                · obtain rfl := List.mem_singleton.1 h; exact HGD.out), (fun f hf => by
                rcases List.mem_append.1 hf with h | h
                · exact HG.out.2 f h
                · obtain rfl := List.mem_singleton.1 h; exact HWF.out)⟩, HM2⟩
              case measure => simp [intOf]; omega
          · go_wp2_with fail
            go_roundw
            case rel => exact ⟨k + 1, fl, by go_num, by omega, by omega, by omega, Lib.hid (HO.out.alloc _), HG, Lib.hid (Mod.alloc HM.out _)⟩
            case measure => simp [intOf]; omega
        · go_wp2_with fail
          go_roundw
          case rel => exact ⟨k + 1, fl, by go_num, by omega, by omega, by omega, Lib.hid (HO.out.alloc _), HG, Lib.hid (Mod.alloc HM.out _)⟩
          case measure => simp [intOf]; omega
      · have i1 : (k : Int) < (l.length : Int) := by omega
        have i2 : ¬ (k : Int) < 50 := by omega
        obtain ⟨A3, c3, rfl, hF3, hb3⟩ := own_fates HO.out
        have hm3 := Mod.trans HM1.out HM.out (fun _ _ h => h)
        have hg := HG.out
        have hz3 := HM.out.size
        have hz1 := HM1.out.size
        have HF3 := Lib.hid hF3
        have HB3 := Lib.hid hb3
        have HM3 := Lib.hid hm3
        have HGD := Lib.hid hg
        have hfl50 : fl.length ≤ 50 := by omega
        clear hF3 hb3 hm3 hg HO HM HG
        go_wp2_with fail
        clear i1
        try clear i2
        refine (new_calls 17 #[] A3 c3 fl wr HF3.out.cells HF3.out.cap HF3.out.max (goods_bad HGD.out.1) (by omega)).mono ?_
        rintro e w4 ⟨p, rfl, hN4, hfp4, hm4⟩
        have hrel : PassRel p.bn 0 fl.length w w4 := ⟨p, fl, hN4, rfl, HGD.out.1, HGD.out.2, by omega, fun i hi => by have := hfp4 i hi; omega, Mod.trans HM3.out hm4 (fun _ _ h => h)⟩
        have HR := Lib.hid hrel
        clear hrel hN4 hfp4 hm4 HF3 HB3 HM3 HGD
        go_wp2_with fail
        generalize p.bn = bn at *
        go_loopw [11] (fun i wr => ∃ k : Nat, i = .int .i64 k ∧ k ≤ fl.length ∧ Hid (PassRel bn k fl.length w wr)) (fun i _ => fl.length - (intOf i).toNat)
        case atStart => exact ⟨0, by go_num, by omega, HR⟩
        case round =>
          obtain ⟨k2, rfl, hk2, HR2⟩ := hrel
          by_cases hlt2 : k2 < fl.length
          · have i3 : (k2 : Int) < (fl.length : Int) := by omega
            obtain ⟨p1, l1, hN, hbn, hgd, hwf, hln, hlo, hm⟩ := HR2.out
            have hA := ask_calls echo_ok echo_ans p1 F0 k2 l1 [] [] () ⟨#[120]⟩ _ (echo_both hN) (small_mk hwf (fun _ h => by cases h) (fun _ h => by cases h) (by decide) (by decide)) ⟨by decide, by decide⟩ (by omega)
            rw [hbn] at hA
            have HA := Lib.hid hA
            have HX := Lib.hid (And.intro hN (And.intro hbn (And.intro hgd (And.intro hwf (And.intro hln (And.intro hlo hm))))))
            clear hA hN hbn hgd hwf hln hlo hm HR2
            go_wp2_with fail
            refine HA.out.mono ?_
            rintro e w5 ⟨v, p2, F2, rfl, ho, hB, hW, hd⟩
            obtain ⟨hN, hbn, hgd, hwf, hln, hlo, hm⟩ := HX.out
            have hag := asks_goods (goes (Net.hd l1) ⟨#[120]⟩ []).1 [] l1.tail hgd.tail
            have hNet := hB.net
            rw [goes_goods _ _ (goods_hd hgd), show (echoV.asks (goes (Net.hd l1) ⟨#[120]⟩ []).1 l1.tail [] ()).wb = [] from hag.1] at hNet
            have hrel2 : PassRel bn (k2 + 1) fl.length w w5 := ⟨p2, _, hNet, hW.bn.trans hbn, fun f hf => hgd f (List.mem_of_mem_tail (hag.2.1 f hf)), fun f hf => hwf f (List.mem_of_mem_tail (hag.2.1 f hf)), by
              have h1 := hag.2.2
              have h2 : (echoV.asks (goes (Net.hd l1) ⟨#[120]⟩ []).1 l1.tail [] ()).l.length ≤ l1.tail.length := h1
              rw [List.length_tail] at h2
              omega, fun i hi => by
              rcases hW.fp i hi with h | h
              · exact hlo i h
              · exact Nat.le_trans hm.size h, Mod.trans hm (ask_went hW) (fun i _ h => by have := hlo i h; omega)⟩
            have HR3 := Lib.hid hrel2
            clear hrel2 hNet hag hN hbn hgd hwf hln hlo hm hB hW hd ho HX HA
            go_wp2_with fail
            go_roundw
            case rel => exact ⟨k2 + 1, by go_num, by omega, HR3⟩
            case measure => simp [intOf]; omega
          · have hk3 : k2 = fl.length := by omega
            have i3 : ¬ (k2 : Int) < (fl.length : Int) := by omega
            obtain ⟨p1, l1, hN, hbn, hgd, hwf, hln, hlo, hm⟩ := HR2.out
            obtain rfl : l1 = [] := List.eq_nil_of_length_eq_zero (by omega)
            have HX := Lib.hid (And.intro hN (And.intro hbn (And.intro hlo hm)))
            clear hN hbn hgd hwf hln hlo hm HR2 hk3
            go_wp2_with fail
            refine (new_calls 17 #[] (some ⟨_, 0, none⟩) 2 lose2 _ (cells_lit rfl) (by decide) (by unfold maxLen; omega) rfl (by decide)).mono ?_
            rintro e w6 ⟨q, rfl, hNq, hfq, hm6⟩
            obtain ⟨hN, hbn, hlo, hm⟩ := HX.out
            have hm56 : Mod (fun _ => False) _ w6 := Mod.trans (Mod.alloc (Mod.refl _ _) _) hm6 (fun _ _ h => h)
            have hN6 := hN.keep hm56 (fun _ _ h => h)
            have hL := left_calls w6 hN6
            rw [hbn] at hL
            have hrel3 : PassRel2 bn q.bn 0 w w6 := ⟨p1, q, k2, hN6, hbn, hNq, rfl, by omega, hlo, fun i hi h => by
              have h1 := hfq i hi
              have h2 := hN.lt i h
              simp only [size_alloc] at h1
              omega, Mod.trans hm hm56 (fun _ _ h => h)⟩
            have HL := Lib.hid hL
            have HR3 := Lib.hid hrel3
            clear hL hrel3 hNq hfq hm6 hm56 hN6 hN hbn hlo hm HX
            go_wp2_with fail
            refine HL.out.mono ?_
            rintro e w7 ⟨rfl, hw⟩; subst hw
            generalize q.bn = bm at *
            clear i3
            go_wp2_with fail
            go_loopw [14] (fun i wr => ∃ k : Nat, i = .int .i64 k ∧ k ≤ fr.length ∧ k ≤ 50 ∧ Hid (PassRel2 bn bm k w wr)) (fun i _ => fr.length - (intOf i).toNat)
            case atStart => exact ⟨0, by go_num, by omega, by omega, HR3⟩
            case round =>
              obtain ⟨k4, rfl, hk4, hk45, HR4⟩ := hrel
              by_cases hl4 : k4 < fr.length
              · have i4 : (k4 : Int) < (fr.length : Int) := by omega
                by_cases hl45 : k4 < 50
                · have i5 : (k4 : Int) < 50 := by omega
                  obtain ⟨p1, q1, sent, hN, hbn, hQ, hbm, hst, hlo, hap, hmw⟩ := HR4.out
                  have hcl := H1.out.1.row.keep hmw (fun _ _ h => h)
                  have hsz := H1.out.2 fr[k4] (List.getElem_mem hl4)
                  rcases hcl with hcl | ⟨gf, og, rfl, hcell⟩
                  · rw [show fr = [] by simpa using hcl] at hl4; simp at hl4
                  have ck := hcell k4 _ (sv_get fr k4 hl4)
                  have ckw : w.cell? ⟨gf, og + k4, none⟩ = some (.string fr[k4]) := by
                    rcases H1.out.1.row with h | ⟨b, o, hA, h⟩
                    · rw [show fr = [] by simpa using h] at hl4; simp at hl4
                    · obtain ⟨rfl, rfl⟩ : gf = b ∧ og = o := by simpa using hA
                      exact h k4 _ (sv_get fr k4 hl4)
                  have hgf : gf < w.heap.size := World.block_lt_of_cell? w _ ckw
                  generalize fr[k4] = s at *
                  clear hcell
                  by_cases h0 : s.size = 0
                  · obtain rfl := str_none s h0
                    have hA := ask_none (p := p1) wr
                    rw [hbn] at hA
                    have HA := Lib.hid hA
                    have HR5 : Hid (PassRel2 bn bm (k4 + 1) w wr) := Lib.hid ⟨p1, q1, sent, hN, hbn, hQ, hbm, by omega, hlo, hap, hmw⟩
                    clear hA hN hbn hQ hbm hst hlo hap hmw HR4
                    go_wp2_with fail
                    refine HA.out.mono ?_
                    rintro e w' ⟨rfl, hw⟩; subst hw
                    go_wp2_with fail
                    go_roundw
                    case rel => exact ⟨k4 + 1, by go_num, by omega, by omega, HR5⟩
                    case measure => simp [intOf]; omega
                  · have hpos : 0 < s.size := by omega
                    have hne := str_full s hpos
                    have hA := ask_calls echo_ok echo_ans p1 F0 sent [] [] [] () s _ (echo_both hN) (small_mk fwf_nil (fun _ h => by cases h) (fun _ h => by cases h) (by decide) (by decide)) ⟨hsz, hpos⟩ (by omega)
                    rw [hbn, goes_plain, ask_plain] at hA
                    have HA := Lib.hid hA
                    have HX := Lib.hid (And.intro hN (And.intro hbn (And.intro hQ (And.intro hbm (And.intro hst (And.intro hlo (And.intro hap hmw)))))))
                    clear hA hN hbn hQ hbm hst hlo hap hmw HR4
                    go_wp2_with fail
                    refine HA.out.mono ?_
                    rintro e w5 ⟨v, p2, F2, rfl, ho, hB, hW, hd⟩
                    obtain ⟨hN, hbn, hQ, hbm, hst, hlo, hap, hmw⟩ := HX.out
                    obtain ⟨Ag, cg, rfl, hfg, hfgb⟩ := own_frames ho
                    have hQ5 := hQ.keep (ask_went hW) (fun i hi h => hap i hi h)
                    have hmw5 : Mod (fun _ => False) w w5 := Mod.trans hmw (ask_went hW) (fun i _ h => by have := hlo i h; omega)
                    have ck5 : w5.cell? ⟨gf, og + k4, none⟩ = some (.string s) := (hmw5.cell (p := ⟨gf, og + k4, none⟩) hgf (fun h => h)).trans ckw
                    have hrel5 : PassRel2 bn bm (k4 + 1) w w5 := ⟨p2, q1, sent + 1, hB.net, hW.bn.trans hbn, hQ5, hbm, by omega, fun i hi => by
                      rcases hW.fp i hi with h | h
                      · exact hlo i h
                      · exact Nat.le_trans hmw.size h, fun i hi h => by
                      rcases hW.fp i h with h2 | h2
                      · exact hap i hi h2
                      · have := hQ.lt i hi; omega, hmw5⟩
                    have HR5 := Lib.hid hrel5
                    have HFG := Lib.hid hfg
                    have HQ5 := Lib.hid hQ5
                    have HBM := Lib.hid hbm
                    clear hrel5 hfg hfgb hQ5 hmw5 hN hbn hQ hbm hst hlo hap hmw HX hB hW hd ho HA
                    go_wp2_with fail
                    refine (same_calls Ag _ cg 1 [bang s] _ (HFG.out.keep (Mod.alloc (Mod.refl (fun _ => False) _) _) (fun _ _ h => h)) ⟨cells_lit rfl, by simp, by unfold maxLen; omega, fun a ha => by obtain rfl := Option.some.inj ha; exact ⟨_, _, Has.new _ _ _⟩⟩).mono ?_
                    rintro e w6 ⟨rfl, hx6⟩
                    have hm6 : Mod (fun _ => False) w5 w6 := by obtain ⟨n6, rfl⟩ := hx6; exact (Mod.alloc (Mod.refl _ _) _).drewN _
                    have hL := left_calls w6 (HQ5.out.keep hm6 (fun _ _ h => h))
                    rw [HBM.out] at hL
                    have HL := Lib.hid hL
                    have HM6 := Lib.hid hm6
                    clear hx6 hm6 hL
                    go_wp2_with fail
                    refine HL.out.mono ?_
                    rintro e w7 ⟨rfl, hw⟩; subst hw
                    have HR6 : Hid (PassRel2 bn bm (k4 + 1) w w7) := Lib.hid (by
                      obtain ⟨p3, q3, st3, a1, a2, a3, a4, a5, a6, a7, a8⟩ := HR5.out
                      exact ⟨p3, q3, st3, a1.keep HM6.out (fun _ _ h => h), a2, a3.keep HM6.out (fun _ _ h => h), a4, a5, a6, a7, Mod.trans a8 HM6.out (fun _ _ h => h)⟩)
                    go_wp2_with fail
                    go_roundw
                    case rel => exact ⟨k4 + 1, by go_num, by omega, by omega, HR6⟩
                    case measure => simp [intOf]; omega
                · have i5 : ¬ (k4 : Int) < 50 := by omega
                  obtain ⟨p1, q1, sent, hN, hbn, hQ, hbm, hst, hlo, hap, hmw⟩ := HR4.out
                  have HMW := Lib.hid hmw
                  clear hN hbn hQ hbm hst hlo hap hmw HR4
                  go_wp2_with fail
                  go_ret
                  exact ⟨rfl, HMW.out.below (fun _ _ h => h)⟩
              · have i4 : ¬ (k4 : Int) < (fr.length : Int) := by omega
                obtain ⟨p1, q1, sent, hN, hbn, hQ, hbm, hst, hlo, hap, hmw⟩ := HR4.out
                have HMW := Lib.hid hmw
                clear hN hbn hQ hbm hst hlo hap hmw HR4
                go_wp2_with fail
                go_ret
                exact ⟨rfl, HMW.out.below (fun _ _ h => h)⟩
    · have i1 : ¬ (k : Int) < (l.length : Int) := by omega
      obtain ⟨A3, c3, rfl, hF3, hb3⟩ := own_fates HO.out
      have hm3 := Mod.trans HM1.out HM.out (fun _ _ h => h)
      have hg := HG.out
      have hz3 := HM.out.size
      have hz1 := HM1.out.size
      have HF3 := Lib.hid hF3
      have HB3 := Lib.hid hb3
      have HM3 := Lib.hid hm3
      have HGD := Lib.hid hg
      have hfl50 : fl.length ≤ 50 := by omega
      clear hF3 hb3 hm3 hg HO HM HG
      go_wp2_with fail
      clear i1
      try clear i2
      refine (new_calls 17 #[] A3 c3 fl wr HF3.out.cells HF3.out.cap HF3.out.max (goods_bad HGD.out.1) (by omega)).mono ?_
      rintro e w4 ⟨p, rfl, hN4, hfp4, hm4⟩
      have hrel : PassRel p.bn 0 fl.length w w4 := ⟨p, fl, hN4, rfl, HGD.out.1, HGD.out.2, by omega, fun i hi => by have := hfp4 i hi; omega, Mod.trans HM3.out hm4 (fun _ _ h => h)⟩
      have HR := Lib.hid hrel
      clear hrel hN4 hfp4 hm4 HF3 HB3 HM3 HGD
      go_wp2_with fail
      generalize p.bn = bn at *
      go_loopw [11] (fun i wr => ∃ k : Nat, i = .int .i64 k ∧ k ≤ fl.length ∧ Hid (PassRel bn k fl.length w wr)) (fun i _ => fl.length - (intOf i).toNat)
      case atStart => exact ⟨0, by go_num, by omega, HR⟩
      case round =>
        obtain ⟨k2, rfl, hk2, HR2⟩ := hrel
        by_cases hlt2 : k2 < fl.length
        · have i3 : (k2 : Int) < (fl.length : Int) := by omega
          obtain ⟨p1, l1, hN, hbn, hgd, hwf, hln, hlo, hm⟩ := HR2.out
          have hA := ask_calls echo_ok echo_ans p1 F0 k2 l1 [] [] () ⟨#[120]⟩ _ (echo_both hN) (small_mk hwf (fun _ h => by cases h) (fun _ h => by cases h) (by decide) (by decide)) ⟨by decide, by decide⟩ (by omega)
          rw [hbn] at hA
          have HA := Lib.hid hA
          have HX := Lib.hid (And.intro hN (And.intro hbn (And.intro hgd (And.intro hwf (And.intro hln (And.intro hlo hm))))))
          clear hA hN hbn hgd hwf hln hlo hm HR2
          go_wp2_with fail
          refine HA.out.mono ?_
          rintro e w5 ⟨v, p2, F2, rfl, ho, hB, hW, hd⟩
          obtain ⟨hN, hbn, hgd, hwf, hln, hlo, hm⟩ := HX.out
          have hag := asks_goods (goes (Net.hd l1) ⟨#[120]⟩ []).1 [] l1.tail hgd.tail
          have hNet := hB.net
          rw [goes_goods _ _ (goods_hd hgd), show (echoV.asks (goes (Net.hd l1) ⟨#[120]⟩ []).1 l1.tail [] ()).wb = [] from hag.1] at hNet
          have hrel2 : PassRel bn (k2 + 1) fl.length w w5 := ⟨p2, _, hNet, hW.bn.trans hbn, fun f hf => hgd f (List.mem_of_mem_tail (hag.2.1 f hf)), fun f hf => hwf f (List.mem_of_mem_tail (hag.2.1 f hf)), by
            have h1 := hag.2.2
            have h2 : (echoV.asks (goes (Net.hd l1) ⟨#[120]⟩ []).1 l1.tail [] ()).l.length ≤ l1.tail.length := h1
            rw [List.length_tail] at h2
            omega, fun i hi => by
            rcases hW.fp i hi with h | h
            · exact hlo i h
            · exact Nat.le_trans hm.size h, Mod.trans hm (ask_went hW) (fun i _ h => by have := hlo i h; omega)⟩
          have HR3 := Lib.hid hrel2
          clear hrel2 hNet hag hN hbn hgd hwf hln hlo hm hB hW hd ho HX HA
          go_wp2_with fail
          go_roundw
          case rel => exact ⟨k2 + 1, by go_num, by omega, HR3⟩
          case measure => simp [intOf]; omega
        · have hk3 : k2 = fl.length := by omega
          have i3 : ¬ (k2 : Int) < (fl.length : Int) := by omega
          obtain ⟨p1, l1, hN, hbn, hgd, hwf, hln, hlo, hm⟩ := HR2.out
          obtain rfl : l1 = [] := List.eq_nil_of_length_eq_zero (by omega)
          have HX := Lib.hid (And.intro hN (And.intro hbn (And.intro hlo hm)))
          clear hN hbn hgd hwf hln hlo hm HR2 hk3
          go_wp2_with fail
          refine (new_calls 17 #[] (some ⟨_, 0, none⟩) 2 lose2 _ (cells_lit rfl) (by decide) (by unfold maxLen; omega) rfl (by decide)).mono ?_
          rintro e w6 ⟨q, rfl, hNq, hfq, hm6⟩
          obtain ⟨hN, hbn, hlo, hm⟩ := HX.out
          have hm56 : Mod (fun _ => False) _ w6 := Mod.trans (Mod.alloc (Mod.refl _ _) _) hm6 (fun _ _ h => h)
          have hN6 := hN.keep hm56 (fun _ _ h => h)
          have hL := left_calls w6 hN6
          rw [hbn] at hL
          have hrel3 : PassRel2 bn q.bn 0 w w6 := ⟨p1, q, k2, hN6, hbn, hNq, rfl, by omega, hlo, fun i hi h => by
            have h1 := hfq i hi
            have h2 := hN.lt i h
            simp only [size_alloc] at h1
            omega, Mod.trans hm hm56 (fun _ _ h => h)⟩
          have HL := Lib.hid hL
          have HR3 := Lib.hid hrel3
          clear hL hrel3 hNq hfq hm6 hm56 hN6 hN hbn hlo hm HX
          go_wp2_with fail
          refine HL.out.mono ?_
          rintro e w7 ⟨rfl, hw⟩; subst hw
          generalize q.bn = bm at *
          clear i3
          go_wp2_with fail
          go_loopw [14] (fun i wr => ∃ k : Nat, i = .int .i64 k ∧ k ≤ fr.length ∧ k ≤ 50 ∧ Hid (PassRel2 bn bm k w wr)) (fun i _ => fr.length - (intOf i).toNat)
          case atStart => exact ⟨0, by go_num, by omega, by omega, HR3⟩
          case round =>
            obtain ⟨k4, rfl, hk4, hk45, HR4⟩ := hrel
            by_cases hl4 : k4 < fr.length
            · have i4 : (k4 : Int) < (fr.length : Int) := by omega
              by_cases hl45 : k4 < 50
              · have i5 : (k4 : Int) < 50 := by omega
                obtain ⟨p1, q1, sent, hN, hbn, hQ, hbm, hst, hlo, hap, hmw⟩ := HR4.out
                have hcl := H1.out.1.row.keep hmw (fun _ _ h => h)
                have hsz := H1.out.2 fr[k4] (List.getElem_mem hl4)
                rcases hcl with hcl | ⟨gf, og, rfl, hcell⟩
                · rw [show fr = [] by simpa using hcl] at hl4; simp at hl4
                have ck := hcell k4 _ (sv_get fr k4 hl4)
                have ckw : w.cell? ⟨gf, og + k4, none⟩ = some (.string fr[k4]) := by
                  rcases H1.out.1.row with h | ⟨b, o, hA, h⟩
                  · rw [show fr = [] by simpa using h] at hl4; simp at hl4
                  · obtain ⟨rfl, rfl⟩ : gf = b ∧ og = o := by simpa using hA
                    exact h k4 _ (sv_get fr k4 hl4)
                have hgf : gf < w.heap.size := World.block_lt_of_cell? w _ ckw
                generalize fr[k4] = s at *
                clear hcell
                by_cases h0 : s.size = 0
                · obtain rfl := str_none s h0
                  have hA := ask_none (p := p1) wr
                  rw [hbn] at hA
                  have HA := Lib.hid hA
                  have HR5 : Hid (PassRel2 bn bm (k4 + 1) w wr) := Lib.hid ⟨p1, q1, sent, hN, hbn, hQ, hbm, by omega, hlo, hap, hmw⟩
                  clear hA hN hbn hQ hbm hst hlo hap hmw HR4
                  go_wp2_with fail
                  refine HA.out.mono ?_
                  rintro e w' ⟨rfl, hw⟩; subst hw
                  go_wp2_with fail
                  go_roundw
                  case rel => exact ⟨k4 + 1, by go_num, by omega, by omega, HR5⟩
                  case measure => simp [intOf]; omega
                · have hpos : 0 < s.size := by omega
                  have hne := str_full s hpos
                  have hA := ask_calls echo_ok echo_ans p1 F0 sent [] [] [] () s _ (echo_both hN) (small_mk fwf_nil (fun _ h => by cases h) (fun _ h => by cases h) (by decide) (by decide)) ⟨hsz, hpos⟩ (by omega)
                  rw [hbn, goes_plain, ask_plain] at hA
                  have HA := Lib.hid hA
                  have HX := Lib.hid (And.intro hN (And.intro hbn (And.intro hQ (And.intro hbm (And.intro hst (And.intro hlo (And.intro hap hmw)))))))
                  clear hA hN hbn hQ hbm hst hlo hap hmw HR4
                  go_wp2_with fail
                  refine HA.out.mono ?_
                  rintro e w5 ⟨v, p2, F2, rfl, ho, hB, hW, hd⟩
                  obtain ⟨hN, hbn, hQ, hbm, hst, hlo, hap, hmw⟩ := HX.out
                  obtain ⟨Ag, cg, rfl, hfg, hfgb⟩ := own_frames ho
                  have hQ5 := hQ.keep (ask_went hW) (fun i hi h => hap i hi h)
                  have hmw5 : Mod (fun _ => False) w w5 := Mod.trans hmw (ask_went hW) (fun i _ h => by have := hlo i h; omega)
                  have ck5 : w5.cell? ⟨gf, og + k4, none⟩ = some (.string s) := (hmw5.cell (p := ⟨gf, og + k4, none⟩) hgf (fun h => h)).trans ckw
                  have hrel5 : PassRel2 bn bm (k4 + 1) w w5 := ⟨p2, q1, sent + 1, hB.net, hW.bn.trans hbn, hQ5, hbm, by omega, fun i hi => by
                    rcases hW.fp i hi with h | h
                    · exact hlo i h
                    · exact Nat.le_trans hmw.size h, fun i hi h => by
                    rcases hW.fp i h with h2 | h2
                    · exact hap i hi h2
                    · have := hQ.lt i hi; omega, hmw5⟩
                  have HR5 := Lib.hid hrel5
                  have HFG := Lib.hid hfg
                  have HQ5 := Lib.hid hQ5
                  have HBM := Lib.hid hbm
                  clear hrel5 hfg hfgb hQ5 hmw5 hN hbn hQ hbm hst hlo hap hmw HX hB hW hd ho HA
                  go_wp2_with fail
                  refine (same_calls Ag _ cg 1 [bang s] _ (HFG.out.keep (Mod.alloc (Mod.refl (fun _ => False) _) _) (fun _ _ h => h)) ⟨cells_lit rfl, by simp, by unfold maxLen; omega, fun a ha => by obtain rfl := Option.some.inj ha; exact ⟨_, _, Has.new _ _ _⟩⟩).mono ?_
                  rintro e w6 ⟨rfl, hx6⟩
                  have hm6 : Mod (fun _ => False) w5 w6 := by obtain ⟨n6, rfl⟩ := hx6; exact (Mod.alloc (Mod.refl _ _) _).drewN _
                  have hL := left_calls w6 (HQ5.out.keep hm6 (fun _ _ h => h))
                  rw [HBM.out] at hL
                  have HL := Lib.hid hL
                  have HM6 := Lib.hid hm6
                  clear hx6 hm6 hL
                  go_wp2_with fail
                  refine HL.out.mono ?_
                  rintro e w7 ⟨rfl, hw⟩; subst hw
                  have HR6 : Hid (PassRel2 bn bm (k4 + 1) w w7) := Lib.hid (by
                    obtain ⟨p3, q3, st3, a1, a2, a3, a4, a5, a6, a7, a8⟩ := HR5.out
                    exact ⟨p3, q3, st3, a1.keep HM6.out (fun _ _ h => h), a2, a3.keep HM6.out (fun _ _ h => h), a4, a5, a6, a7, Mod.trans a8 HM6.out (fun _ _ h => h)⟩)
                  go_wp2_with fail
                  go_roundw
                  case rel => exact ⟨k4 + 1, by go_num, by omega, by omega, HR6⟩
                  case measure => simp [intOf]; omega
              · have i5 : ¬ (k4 : Int) < 50 := by omega
                obtain ⟨p1, q1, sent, hN, hbn, hQ, hbm, hst, hlo, hap, hmw⟩ := HR4.out
                have HMW := Lib.hid hmw
                clear hN hbn hQ hbm hst hlo hap hmw HR4
                go_wp2_with fail
                go_ret
                exact ⟨rfl, HMW.out.below (fun _ _ h => h)⟩
            · have i4 : ¬ (k4 : Int) < (fr.length : Int) := by omega
              obtain ⟨p1, q1, sent, hN, hbn, hQ, hbm, hst, hlo, hap, hmw⟩ := HR4.out
              have HMW := Lib.hid hmw
              clear hN hbn hQ hbm hst hlo hap hmw HR4
              go_wp2_with fail
              go_ret
              exact ⟨rfl, HMW.out.below (fun _ _ h => h)⟩
end Net
end Go.Proofs.Ytocpifoimoaibaa
