/- More walks of the document's answer for the net: Come, Right; and of 'same'. -/
import Derived.Test.YtocpifoimoaibaaNetR
namespace Go.Proofs.Ytocpifoimoaibaa
set_option linter.unusedVariables false
set_option linter.unusedSimpArgs false
open Go.RowKit K
namespace Net

set_option maxRecDepth 100000 in
set_option maxHeartbeats 1000000 in
theorem come_calls (q : RP) (l : List Fate) (wt wb : List ByteArray) (s : ByteArray) (w : World) (h : RefAt w q l wt wb) (hl : FWf l) (hs : s.size ≤ maxLen) (h0 : 0 < s.size) (hwl : wb.length ≤ 1000000) :
    Calls Try.prog 13 #[.pointer (some ⟨q.rn, 0, none⟩), .string s] w (RcPost q l.tail (goes (hd l) s wb).1 wt (goes (hd l) s wb).2 w) := by
  have hc1 := h.has.cell (o := 2) rfl
  have HX := Lib.hid (rgoes_calls q.rn _ _ q.A q.c l q.Ab q.cb wb s w h.has h.fates h.back (fun a ha => has_ne h.has (h.back.row a ha) (by decide)) hl hs h0 hwl)
  have HH := Lib.hid h
  clear h
  go_enter Try.func13, Try.ntmps13
  go_wp2_with fail
  refine HX.out.mono ?_
  rintro e w1 ⟨A1, c1, A2, c2, A', c', rfl, hf1, hf2, hb1, hb2, hh, hF, hsr, hm⟩
  have x1 := hh.cell (o := 2) rfl
  have y1 := hh.frozen 2
  have hmS := (Mod.refl (fun k => k = q.rn) w1).set1 rfl 2 (.slice A2 (goes (hd l) s wb).2.length c2)
  have hR : RefAt (w1.setCell ⟨q.rn, 2, none⟩ (.slice A2 (goes (hd l) s wb).2.length c2)) ⟨q.rn, A', c', q.At, q.ct, A2, c2⟩ l.tail wt (goes (hd l) s wb).2 :=
    ⟨hh.set 2 _, hF.keep hmS (fun a ha => has_ne hh (hF.row a ha) (by decide)), (HH.out.there.keep hm (fun a ha => has_ne HH.out.has (HH.out.there.row a ha) (by decide))).keep hmS (fun a ha => has_ne HH.out.has (HH.out.there.row a ha) (by decide)),
      hf2.keep hmS (fun a ha => has_ne hh (hf2.row a ha) (by decide))⟩
  have hF1 := hf1.keep hmS (fun a ha => has_ne hh (hf1.row a ha) (by decide))
  have hfp : ∀ k, RP.fp ⟨q.rn, A', c', q.At, q.ct, A2, c2⟩ k → q.fp k ∨ w.heap.size ≤ k := by
    rintro k (h | ⟨a, ha, rfl⟩ | h | ⟨a, ha, rfl⟩)
    · exact .inl (.inl h)
    · obtain ⟨a0, h1, h2⟩ := hsr a ha
      exact .inl (.inr (.inl ⟨a0, h1, h2.symm⟩))
    · exact .inl (.inr (.inr (.inl h)))
    · rcases hb2 a ha with h1 | h1
      · exact .inl (.inr (.inr (.inr ⟨a, h1 ▸ ha, rfl⟩)))
      · exact .inr h1
  have HR := Lib.hid hR
  have HF1 := Lib.hid hF1
  have HFP := Lib.hid hfp
  have HM := Lib.hid (hm.set1 rfl 2 (.slice A2 (goes (hd l) s wb).2.length c2))
  have HB1 := Lib.hid hb1
  clear hR hF1 hfp hm hb1 hmS hf1 hf2 hb2 hh hF hsr
  generalize (goes (hd l) s wb).1 = o1 at *
  generalize (goes (hd l) s wb).2 = o2 at *
  go_wp2_with fail
  go_ret
  exact ⟨A1, c1, _, rfl, HF1.out, HB1.out, HR.out, rfl, HM.out, HFP.out⟩

set_option maxRecDepth 100000 in
set_option maxHeartbeats 1000000 in
theorem right_calls (A : Option Addr) (c : Nat) (l : List Fate) (w : World) (hA : Cells w A (fcs l)) (hc : l.length ≤ c) (hm : c ≤ maxLen) :
    Calls Try.prog 10 #[.slice A l.length c] w fun e w' => e = .returned (.bool (!anyBad l)) ∧ w' = w := by
  unfold maxLen at hm
  have HA := Lib.hid hA
  clear hA
  go_enter Try.func10, Try.ntmps10
  go_wp2_with fail
  go_loop [3] (fun i => ∃ k : Nat, i = .int .i64 k ∧ k ≤ l.length ∧ Hid (anyBad (l.take k) = false)) (fun i => l.length - (intOf i).toNat)
  case atStart => exact ⟨0, by go_num, by omega, Lib.hid rfl⟩
  case round =>
    obtain ⟨k, rfl, hk, HB⟩ := hrel
    by_cases hlt : k < l.length
    · have i1 : (k : Int) < (l.length : Int) := by omega
      rcases HA.out with h | ⟨b, o, rfl, hcell⟩
      · have := fcs_len l; rw [h] at this; simp at this; omega
      have g := fcs_get l k hlt
      have c0 := hcell _ _ g.1
      have htk : anyBad (l.take (k + 1)) = (anyBad (l.take k) || badF l[k]) := by unfold anyBad; rw [List.take_succ_eq_append_getElem hlt, List.any_append]; simp only [List.any_cons, List.any_nil, Bool.or_false]
      have hin : badF l[k] = true → anyBad l = true := fun h => by unfold anyBad; exact List.any_eq_true.2 ⟨_, List.getElem_mem hlt, h⟩
      generalize l[k] = f at *
      have HT := Lib.hid htk
      have HI := Lib.hid hin
      have hbf : badF f = (decide (f.k < 0) || decide (4 < f.k)) := rfl
      have HF := Lib.hid hbf
      clear hcell g htk hin hbf
      by_cases h1 : f.k < 0
      · go_wp2_with fail
        go_ret
        exact ⟨by rw [HI.out (by rw [HF.out]; simp [h1])]; rfl, rfl⟩
      · by_cases h2 : 4 < f.k
        · go_wp2_with fail
          go_ret
          exact ⟨by rw [HI.out (by rw [HF.out]; simp [h2])]; rfl, rfl⟩
        · go_wp2_with fail
          go_round
          case rel => exact ⟨k + 1, by go_num, by omega, Lib.hid (by rw [HT.out, HB.out, HF.out]; simp [h1, h2])⟩
          case measure => simp [intOf]; omega
    · have hkl : k = l.length := by omega
      have i1 : ¬ (k : Int) < (l.length : Int) := by omega
      have hb := HB.out
      rw [hkl, List.take_length] at hb
      have HB2 := Lib.hid hb
      clear hb
      go_wp2_with fail
      go_ret
      exact ⟨by rw [HB2.out]; rfl, rfl⟩

theorem same_str (s : ByteArray) : (!s.toList == s.toList) = false := by simp
set_option maxRecDepth 100000 in
set_option maxHeartbeats 1000000 in
theorem same_calls (A1 A2 : Option Addr) (c1 c2 : Nat) (l : List ByteArray) (w : World) (h1 : Frames w A1 c1 l) (h2 : Frames w A2 c2 l) :
    Calls Try.prog 14 #[.slice A1 l.length c1, .slice A2 l.length c2] w fun e w' => e = .returned (.bool true) ∧ ∃ n, w' = w.drewN n := by
  have hm := h1.max
  have hc := h1.cap
  unfold maxLen at hm
  have H1 := Lib.hid h1.cells
  have H2 := Lib.hid h2.cells
  clear h1 h2
  go_enter Try.func14, Try.ntmps14
  go_wp2_with fail
  go_loopw [5] (fun i wr => ∃ k : Nat, i = .int .i64 k ∧ k ≤ l.length ∧ Hid (∃ n, wr = w.drewN n)) (fun i _ => l.length - (intOf i).toNat)
  case atStart => exact ⟨0, by go_num, by omega, Lib.hid ⟨0, rfl⟩⟩
  case round =>
    obtain ⟨k, rfl, hk, HN⟩ := hrel
    by_cases hlt : k < l.length
    · have i1 : (k : Int) < (l.length : Int) := by omega
      have hx1 : Cells wr A1 (sv l) := by obtain ⟨n, rfl⟩ := HN.out; exact H1.out.drewN n
      have hx2 : Cells wr A2 (sv l) := by obtain ⟨n, rfl⟩ := HN.out; exact H2.out.drewN n
      have hn0 : ¬ sv l = [] := fun h => by have := sv_len l; rw [h] at this; simp at this; omega
      rcases hx1 with h | ⟨b, o, rfl, hcell⟩
      · exact absurd h hn0
      rcases hx2 with h | ⟨b2, o2, rfl, hcell2⟩
      · exact absurd h hn0
      have x1 := hcell k _ (sv_get l k hlt)
      have x2 := hcell2 k _ (sv_get l k hlt)
      have i0 : (0 : Int) ≤ (k : Int) := by omega
      generalize l[k] = s at *
      have hs := same_str s
      clear hcell hcell2 hn0
      go_wp2_with fail
      go_quiet (fail)
      go_wp2_with fail
      go_roundw
      case rel =>
        obtain ⟨n, rfl⟩ := HN.out
        exact ⟨k + 1, by go_num, by omega, Lib.hid ⟨n + nq, by simp [World.drewN, Nat.add_assoc]⟩⟩
      case measure => simp [intOf]; omega
    · have i1 : ¬ (k : Int) < (l.length : Int) := by omega
      go_wp2_with fail
      go_ret
      exact ⟨rfl, HN.out⟩
end Net
end Go.Proofs.Ytocpifoimoaibaa
