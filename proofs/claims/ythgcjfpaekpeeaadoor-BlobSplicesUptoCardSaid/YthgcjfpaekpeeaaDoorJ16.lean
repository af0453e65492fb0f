/- Joined texts: ObjTg, ObjU. -/
import Derived.Test.YthgcjfpaekpeeaaDoorJ15
/- The walk of the reference's TakeFan. -/
namespace Go.Proofs.YthgcjfpaekpeeaaDoor
set_option linter.unusedVariables false
set_option linter.unusedSimpArgs false
open Go.RowKit K Wire
namespace Obj

def gList {α : Type} (f : RR → α × RR) : Nat → RR → List α → RR × List α
  | 0, x, l => (x, l)
  | n + 1, x, l => if x.bad then (x, l) else gList f n (f x).2 (l ++ [(f x).1])
theorem gList_stop {α : Type} (f : RR → α × RR) (n : Nat) (x : RR) (l : List α) (h : n = 0 ∨ x.bad = true) : gList f n x l = (x, l) := by
  cases n with
  | zero => rfl
  | succ n => rcases h with h | h; cases h; rw [gList, if_pos h]
theorem gList_go {α : Type} (f : RR → α × RR) (n : Nat) (x : RR) (l : List α) (h : x.bad = false) : gList f (n + 1) x l = gList f n (f x).2 (l ++ [(f x).1]) := by
  rw [gList, if_neg (by rw [h]; decide)]
theorem gCount_in (L : List UInt8) (most : Int) (x : RR) (hm : 0 ≤ most) : 0 ≤ (gCount L most x).1 ∧ (gCount L most x).1 ≤ most := by
  unfold gCount; split
  · exact ⟨Int.le_refl _, hm⟩
  · omega
def gPart (L : List UInt8) (x : RR) : Part × RR := (⟨⟨(gId L x).1.toArray⟩, (gInt L (gId L x).2).1⟩, (gInt L (gId L x).2).2)
def gfanL (L : List UInt8) : Int := (gInt L ⟨begunBad L 0x46, 1⟩).1
def gFan (L : List UInt8) : RR × List Part :=
  gList (gPart L) (gCount L 32 (gInt L ⟨begunBad L 0x46, 1⟩).2).1.toNat (gCount L 32 (gInt L ⟨begunBad L 0x46, 1⟩).2).2 []
def gokFan (L : List UInt8) : Bool := gEnds L (gFan L).1 && rightFan (gfanL L) (gFan L).2
def goutFan (L : List UInt8) : Int × List Part := if gokFan L then (gfanL L, (gFan L).2) else (0, [])

set_option maxRecDepth 100000 in
set_option maxHeartbeats 2000000 in
theorem rTakeFan_calls (s : ByteArray) (w : World) (hs : s.size ≤ 100000000) :
    Calls Tryd.prog 53 #[.string s] w fun e w' => ∃ v, e = .returned (.tuple #[.agg #[.int .i64 (goutFan s.data.toList).1, v], errV (gokFan s.data.toList)]) ∧ w'.ownsRow w.heap.size 25 2 v (goutFan s.data.toList).2.length ((goutFan s.data.toList).2.flatMap pc) ∧ Mod (fun _ => False) w w' := by
  have hL : s.data.toList.length ≤ 100000000 := by simpa using hs
  have H0 := Lib.hid (begun_calls s 70 (w.alloc (.cells #[.int .i64 0, .slice none 0 0] 96)) hs)
  clear hs
  generalize s.data.toList = L at *
  go_enter Tryd.func53, Tryd.ntmps53
  go_wp2_with fail
  refine H0.out.mono ?_
  rintro e w1 ⟨b, rfl, h1⟩
  have hR := Has.new w [.int .i64 0, .slice none 0 0] 96
  have hM0 := (Mod.refl (fun _ => False) w).alloc (.cells #[.int .i64 0, .slice none 0 0] 96)
  have hsz : w.heap.size + 1 = (w.alloc (.cells #[.int .i64 0, .slice none 0 0] 96)).heap.size := by simp
  clear H0
  generalize w.alloc (.cells #[.int .i64 0, .slice none 0 0] 96) = w0 at *
  have HR0 := Lib.hid hR
  have HM0 := Lib.hid hM0
  have HSZ := Lib.hid hsz
  have H1 := Lib.hid h1
  clear h1 hR hM0 hsz
  go_wp2_with fail
  refine (gInt_calls H1.out hL).mono ?_
  rintro e w2 ⟨rfl, h2, _⟩
  have hdef : gFan L = gList (gPart L) (gCount L 32 (gInt L ⟨begunBad L 0x46, 1⟩).2).1.toNat (gCount L 32 (gInt L ⟨begunBad L 0x46, 1⟩).2).2 [] := rfl
  have hlv : gfanL L = (gInt L ⟨begunBad L 0x46, 1⟩).1 := rfl
  rw [← hlv] at *
  generalize (gInt L ⟨begunBad L 0x46, 1⟩).2 = xa at *
  have HDEF := Lib.hid hdef
  have H2 := Lib.hid h2
  clear hdef h2 H1 hlv
  go_wp2_with fail
  refine (gCount_calls (H2.out.alloc _) 32 hL).mono ?_
  rintro e w3 ⟨rfl, h3, hm3⟩
  have hgb : w2.heap.size ≠ b := by
    obtain ⟨A, c, hA⟩ := H2.out.ex
    have := hA.has.lt; omega
  have HGB := Lib.hid hgb
  have HGZ := Lib.hid H2.out.mod.size
  have hG3 := (Has.new w2 [.int .i64 (gfanL L), .slice none 0 0] 96).keep hm3 hgb
  have HG3 := Lib.hid hG3
  have hin := gCount_in L 32 xa (by omega)
  generalize (gCount L 32 xa).1 = n at *
  generalize (gCount L 32 xa).2 = x1 at *
  have H3 := Lib.hid h3
  have hv0 : w3.ownsRow w0.heap.size 25 2 (.slice none 0 0) ([] : List Part).length (([] : List Part).flatMap pc) := World.ownsRow_nil _ _ _ _
  have HV0 := Lib.hid hv0
  clear hv0 h3 hm3 hgb hG3 H2
  go_wp2_with fail
  go_loopw [7] (fun m wr => ∃ (z : Int) (x : RR) (l : List Part) (v : Value), m = .int .i64 z ∧ (0 ≤ z ∧ z ≤ n) ∧ (l.length : Int) = z ∧
    Hid (gFan L = gList (gPart L) (n - z).toNat x l) ∧ Hid (Rg w0 b L x wr) ∧ Hid (wr.ownsRow w0.heap.size 25 2 v l.length (l.flatMap pc)) ∧ Hid (Has wr w2.heap.size [.int .i64 (gfanL L), v] 96)) (fun m _ => (n - intOf m).toNat)
  case atStart =>
    exact ⟨0, x1, [], .slice none 0 0, by go_num, ⟨by omega, by omega⟩, rfl, by rw [Int.sub_zero]; exact HDEF, H3, HV0, HG3⟩
  case round =>
    obtain ⟨z, x, l, v, rfl, hz, hx, HD, HR, HV, HG⟩ := hrel
    have c1 := HR.out.bad
    have hn32 : n ≤ 32 := hin.2
    have hl32 : l.length ≤ 32 := by omega
    by_cases hb : x.bad = true
    · rw [hb] at c1
      by_cases i1 : z < n
      ·
        have HSTOP : (n - z).toNat = 0 ∨ x.bad = true := .inr hb
        clear hb
        have HD3 := Lib.hid (show gFan L = (x, l) by rw [HD.out]; exact gList_stop _ _ _ _ HSTOP)
        clear hx HD
        obtain ⟨A, cp, rfl, _, hcl, _, _⟩ := own_cells HV.out
        have HCL := Lib.hid hcl
        clear hcl
        go_wp2_with fail
        refine (gEnds_calls HR.out hL).mono ?_
        rintro e w4 ⟨rfl, hm4⟩
        have hG4 := HG.out.keep hm4 (fun h => h)
        have x0 := hG4.cell (o := 0) rfl
        have x1 := hG4.cell (o := 1) rfl
        have HG4 := Lib.hid hG4
        have HM4 := Lib.hid (Mod.trans HR.out.mod hm4 (fun _ _ h => h))
        have HV4 := Lib.hid (own_keep HV.out hm4 (fun _ _ _ h => h))
        have hRC := rightFan_calls (gfanL L) A cp l w4 (HCL.out.keep hm4 (fun _ _ h => h)) (by omega)
        have HRC := Lib.hid hRC
        clear hm4 hG4 hRC
        have hok : gokFan L = (gEnds L x && rightFan (gfanL L) l) := by unfold gokFan; rw [HD3.out]
        obtain ⟨en, hen⟩ : ∃ en, gEnds L x = en := ⟨_, rfl⟩
        obtain ⟨rt, hrt⟩ : ∃ rt, rightFan (gfanL L) l = rt := ⟨_, rfl⟩
        rw [hen, hrt] at hok
        rw [hen]
        rw [hrt] at HRC
        have HOK := Lib.hid hok
        clear hen hrt hok
        go_wp2_with fail
        refine HRC.out.mono ?_
        rintro e w7 ⟨rfl, hm7⟩
        have HV7 := Lib.hid (own_keep HV4.out hm7 (fun _ _ _ h => h))
        have hG7 := HG4.out.keep hm7 (fun h => h)
        have z0 := hG7.cell (o := 0) rfl
        have z1 := hG7.cell (o := 1) rfl
        have hM7 := Mod.trans HM4.out hm7 (fun _ _ h => h)
        have hR7 := HR0.out.keep hM7 (fun h => h)
        have k0 := hR7.frozen 0
        have k1 := hR7.frozen 1
        have q0 := hR7.cell (o := 0) rfl
        have q1 := hR7.cell (o := 1) rfl
        have HM7 := Lib.hid (Mod.trans HM0.out hM7 (fun _ _ h => h))
        clear hm7 hM7 hR7 hG7 x0 x1
        cases en with
        | true =>
          cases rt with
          | true =>
            have hok : gokFan L = true := HOK.out
            have HOK := Lib.hid hok
            clear hok
            go_wp2_with fail
            refine bodyPost_ret (v := .tuple #[.agg #[.int .i64 (gfanL L), .slice A l.length cp], .int .i64 0]) (by simp [results, Tryd.results53, go_sem, q0, q1]) rfl ⟨_, by rw [HOK.out]; unfold goutFan; rw [if_pos HOK.out]; rfl, ?_, ?_⟩
            · unfold goutFan
              rw [if_pos HOK.out, HD3.out]
              exact own_base (own_keep (S := fun k => k = w.heap.size) HV7.out (((Mod.refl (fun k => k = w.heap.size) _).set1 rfl _ _).set1 rfl _ _) (fun k hk _ h => by have := HSZ.out; omega)) (by have := HSZ.out; omega)
            · exact (HM7.out.setCell (p := ⟨w.heap.size, 0, none⟩) (.inr (by simp)) _).setCell (p := ⟨w.heap.size, 1, none⟩) (.inr (by simp)) _
          | false =>
            have hok : gokFan L = false := HOK.out
            have HOK := Lib.hid hok
            clear hok
            go_wp2_with fail
            refine bodyPost_ret (v := .tuple #[.agg #[.int .i64 0, .slice none 0 0], .int .i64 81]) (by simp [results, Tryd.results53, go_sem, q0, q1]) rfl ⟨_, by rw [HOK.out]; unfold goutFan; rw [if_neg (by rw [HOK.out]; decide)]; rfl, ?_, ?_⟩
            · unfold goutFan
              rw [if_neg (by rw [HOK.out]; decide)]
              exact World.ownsRow_nil _ _ _ _
            · exact (HM7.out.setCell (p := ⟨w.heap.size, 0, none⟩) (.inr (by simp)) _).setCell (p := ⟨w.heap.size, 1, none⟩) (.inr (by simp)) _
        | false =>
          have hok : gokFan L = false := HOK.out
          have HOK := Lib.hid hok
          clear hok
          go_wp2_with fail
          refine bodyPost_ret (v := .tuple #[.agg #[.int .i64 0, .slice none 0 0], .int .i64 81]) (by simp [results, Tryd.results53, go_sem, q0, q1]) rfl ⟨_, by rw [HOK.out]; unfold goutFan; rw [if_neg (by rw [HOK.out]; decide)]; rfl, ?_, ?_⟩
          · unfold goutFan
            rw [if_neg (by rw [HOK.out]; decide)]
            exact World.ownsRow_nil _ _ _ _
          · exact (HM7.out.setCell (p := ⟨w.heap.size, 0, none⟩) (.inr (by simp)) _).setCell (p := ⟨w.heap.size, 1, none⟩) (.inr (by simp)) _
      ·
        have HSTOP : (n - z).toNat = 0 ∨ x.bad = true := .inr hb
        clear hb
        have HD3 := Lib.hid (show gFan L = (x, l) by rw [HD.out]; exact gList_stop _ _ _ _ HSTOP)
        clear hx HD
        obtain ⟨A, cp, rfl, _, hcl, _, _⟩ := own_cells HV.out
        have HCL := Lib.hid hcl
        clear hcl
        go_wp2_with fail
        refine (gEnds_calls HR.out hL).mono ?_
        rintro e w4 ⟨rfl, hm4⟩
        have hG4 := HG.out.keep hm4 (fun h => h)
        have x0 := hG4.cell (o := 0) rfl
        have x1 := hG4.cell (o := 1) rfl
        have HG4 := Lib.hid hG4
        have HM4 := Lib.hid (Mod.trans HR.out.mod hm4 (fun _ _ h => h))
        have HV4 := Lib.hid (own_keep HV.out hm4 (fun _ _ _ h => h))
        have hRC := rightFan_calls (gfanL L) A cp l w4 (HCL.out.keep hm4 (fun _ _ h => h)) (by omega)
        have HRC := Lib.hid hRC
        clear hm4 hG4 hRC
        have hok : gokFan L = (gEnds L x && rightFan (gfanL L) l) := by unfold gokFan; rw [HD3.out]
        obtain ⟨en, hen⟩ : ∃ en, gEnds L x = en := ⟨_, rfl⟩
        obtain ⟨rt, hrt⟩ : ∃ rt, rightFan (gfanL L) l = rt := ⟨_, rfl⟩
        rw [hen, hrt] at hok
        rw [hen]
        rw [hrt] at HRC
        have HOK := Lib.hid hok
        clear hen hrt hok
        go_wp2_with fail
        refine HRC.out.mono ?_
        rintro e w7 ⟨rfl, hm7⟩
        have HV7 := Lib.hid (own_keep HV4.out hm7 (fun _ _ _ h => h))
        have hG7 := HG4.out.keep hm7 (fun h => h)
        have z0 := hG7.cell (o := 0) rfl
        have z1 := hG7.cell (o := 1) rfl
        have hM7 := Mod.trans HM4.out hm7 (fun _ _ h => h)
        have hR7 := HR0.out.keep hM7 (fun h => h)
        have k0 := hR7.frozen 0
        have k1 := hR7.frozen 1
        have q0 := hR7.cell (o := 0) rfl
        have q1 := hR7.cell (o := 1) rfl
        have HM7 := Lib.hid (Mod.trans HM0.out hM7 (fun _ _ h => h))
        clear hm7 hM7 hR7 hG7 x0 x1
        cases en with
        | true =>
          cases rt with
          | true =>
            have hok : gokFan L = true := HOK.out
            have HOK := Lib.hid hok
            clear hok
            go_wp2_with fail
            refine bodyPost_ret (v := .tuple #[.agg #[.int .i64 (gfanL L), .slice A l.length cp], .int .i64 0]) (by simp [results, Tryd.results53, go_sem, q0, q1]) rfl ⟨_, by rw [HOK.out]; unfold goutFan; rw [if_pos HOK.out]; rfl, ?_, ?_⟩
            · unfold goutFan
              rw [if_pos HOK.out, HD3.out]
              exact own_base (own_keep (S := fun k => k = w.heap.size) HV7.out (((Mod.refl (fun k => k = w.heap.size) _).set1 rfl _ _).set1 rfl _ _) (fun k hk _ h => by have := HSZ.out; omega)) (by have := HSZ.out; omega)
            · exact (HM7.out.setCell (p := ⟨w.heap.size, 0, none⟩) (.inr (by simp)) _).setCell (p := ⟨w.heap.size, 1, none⟩) (.inr (by simp)) _
          | false =>
            have hok : gokFan L = false := HOK.out
            have HOK := Lib.hid hok
            clear hok
            go_wp2_with fail
            refine bodyPost_ret (v := .tuple #[.agg #[.int .i64 0, .slice none 0 0], .int .i64 81]) (by simp [results, Tryd.results53, go_sem, q0, q1]) rfl ⟨_, by rw [HOK.out]; unfold goutFan; rw [if_neg (by rw [HOK.out]; decide)]; rfl, ?_, ?_⟩
            · unfold goutFan
              rw [if_neg (by rw [HOK.out]; decide)]
              exact World.ownsRow_nil _ _ _ _
            · exact (HM7.out.setCell (p := ⟨w.heap.size, 0, none⟩) (.inr (by simp)) _).setCell (p := ⟨w.heap.size, 1, none⟩) (.inr (by simp)) _
        | false =>
          have hok : gokFan L = false := HOK.out
          have HOK := Lib.hid hok
          clear hok
          go_wp2_with fail
          refine bodyPost_ret (v := .tuple #[.agg #[.int .i64 0, .slice none 0 0], .int .i64 81]) (by simp [results, Tryd.results53, go_sem, q0, q1]) rfl ⟨_, by rw [HOK.out]; unfold goutFan; rw [if_neg (by rw [HOK.out]; decide)]; rfl, ?_, ?_⟩
          · unfold goutFan
            rw [if_neg (by rw [HOK.out]; decide)]
            exact World.ownsRow_nil _ _ _ _
          · exact (HM7.out.setCell (p := ⟨w.heap.size, 0, none⟩) (.inr (by simp)) _).setCell (p := ⟨w.heap.size, 1, none⟩) (.inr (by simp)) _
    · have hb0 : x.bad = false := by simpa using hb
      rw [hb0] at c1
      by_cases i1 : z < n
      · have hstep : gFan L = gList (gPart L) (n - (z + 1)).toNat (gPart L x).2 (l ++ [(gPart L x).1]) := by
          rw [HD.out, show (n - z).toNat = (n - (z + 1)).toNat + 1 by omega, gList_go _ _ _ _ hb0]
        have HST := Lib.hid hstep
        clear hb hb0 hstep HD
        obtain ⟨A, cp, rfl, _, hcl, _, _⟩ := own_cells HV.out
        clear hcl
        go_wp2_with fail
        refine (gId_calls HR.out hL).mono ?_
        rintro e w4 ⟨rfl, h4, hm4⟩
        have HV4 := Lib.hid (own_keep HV.out hm4 (fun k _ hk hkb => by
          obtain ⟨A, c, hA⟩ := HR.out.ex
          exact has_ne hA.has (own_row HV.out hk) (by decide) hkb))
        have HG4 := Lib.hid (HG.out.keep hm4 HGB.out)
        have H4 := Lib.hid h4
        clear h4 hm4
        go_wp2_with fail
        refine (gInt_calls H4.out hL).mono ?_
        rintro e w5 ⟨rfl, h5, hm5⟩
        have HV5 := Lib.hid (own_keep HV4.out hm5 (fun k _ hk hkb => by
          obtain ⟨A, c, hA⟩ := H4.out.ex
          exact has_ne hA.has (own_row HV4.out hk) (by decide) hkb))
        have hG5 := HG4.out.keep hm5 HGB.out
        have x1 := hG5.cell (o := 1) rfl
        have hgl := hG5.lt
        have HG5 := Lib.hid hG5
        generalize hP : (gPart L x).1 = P at *
        have e1 : (⟨(gId L x).1.toArray⟩ : ByteArray) = P.id := by rw [← hP]; rfl
        have e2 : (gInt L (gId L x).2).1 = P.size := by rw [← hP]; rfl
        have e3 : (gInt L (gId L x).2).2 = (gPart L x).2 := rfl
        rw [e1, e2]
        rw [e3] at h5
        generalize (gPart L x).2 = x4 at *
        have H5 := Lib.hid h5
        have HVA := Lib.hid (HV5.out.alloc (.cells #[.string P.id, .int .i64 P.size] 25))
        have hbs : w0.heap.size ≤ w5.heap.size := h5.mod.size
        clear hP e1 e2 e3 h5 hm5 hG5 HV4 HG4 H4
        go_wp2_with (first
          | (at_builtin
             go_must (refine app (.tmp 36) (.tmp 40) part_t w0.heap.size (.slice A l.length cp) l.length (l.flatMap pc) HVA.out ⟨w5.heap.size, 0, none⟩ 1 1 [.string P.id, .int .i64 P.size] rfl rfl rfl rfl rfl (cells_new w5 _ _) (by intro u hu; simp at hu; rcases hu with rfl | rfl <;> rfl) (by omega) (by unfold maxLen; omega) (by simp; omega) ?_; intro v6 w6 ho hm6)
             obtain ⟨A6, c6, rfl, _, _, _, _⟩ := own_cells ho
             have hRA := H5.out.alloc (.cells #[.string P.id, .int .i64 P.size] 25)
             have hG6 := (HG5.out.alloc (.cells #[.string P.id, .int .i64 P.size] 25)).keep hm6 (fun hs => has_ne (HG5.out.alloc _) (own_row HVA.out hs.2) (by decide) rfl)
             have h6 : Rg w0 b L x4 w6 := hRA.keep hm6 (fun hs => by
               obtain ⟨A, c, hA⟩ := hRA.ex
               exact has_ne hA.has (own_row HVA.out hs.2) (by decide) rfl) (fun k hk hs => byteRow_ne hk (own_row HVA.out hs.2) (by decide)) (fun k hk hs => by omega)
             have y1 := hG6.frozen 1
             have q1 := hG6.cell (o := 1) rfl
             have HG6 := Lib.hid hG6
             have H6 := Lib.hid h6
             have HO := Lib.hid ho
             clear hRA hG6 h6 ho hm6))
        have hmS := (Mod.refl (fun k => k = w2.heap.size) w6).set1 rfl 1 (.slice A6 (l.length + 1) c6)
        have h7 : Rg w0 b L x4 (w6.setCell ⟨w2.heap.size, 1, none⟩ (.slice A6 (l.length + 1) c6)) := H6.out.keep hmS (fun h => HGB.out h.symm) (fun k ⟨cur, fz, hk⟩ hs => has_ne HG6.out ⟨cur, fz, by rw [← hs]; exact hk⟩ (by decide) rfl) (fun k hk hs => by have := HGZ.out; omega)
        have hv6 := own_keep HO.out hmS (fun k _ hk hs => has_ne HG6.out (own_row HO.out hk) (by decide) hs)
        have hv7 : (w6.setCell ⟨w2.heap.size, 1, none⟩ (.slice A6 (l.length + 1) c6)).ownsRow w0.heap.size 25 2 (.slice A6 (l.length + 1) c6) (l ++ [P]).length ((l ++ [P]).flatMap pc) := by rw [List.length_append, List.flatMap_append]; exact hv6
        have H7 := Lib.hid h7
        have HV7 := Lib.hid hv7
        have HG7 := Lib.hid (HG6.out.set 1 (.slice A6 (l.length + 1) c6))
        clear hmS h7 hv6 hv7 x1 y1 q1 HVA
        go_wp2_with fail
        go_roundw
        case rel => exact ⟨z + 1, x4, l ++ [P], _, by go_num, by omega, by simp; omega, HST, H7, HV7, HG7⟩
        case measure => simp [intOf]; omega
      ·
        have HSTOP : (n - z).toNat = 0 ∨ x.bad = true := .inl (by omega)
        clear hb hb0
        have HD3 := Lib.hid (show gFan L = (x, l) by rw [HD.out]; exact gList_stop _ _ _ _ HSTOP)
        clear hx HD
        obtain ⟨A, cp, rfl, _, hcl, _, _⟩ := own_cells HV.out
        have HCL := Lib.hid hcl
        clear hcl
        go_wp2_with fail
        refine (gEnds_calls HR.out hL).mono ?_
        rintro e w4 ⟨rfl, hm4⟩
        have hG4 := HG.out.keep hm4 (fun h => h)
        have x0 := hG4.cell (o := 0) rfl
        have x1 := hG4.cell (o := 1) rfl
        have HG4 := Lib.hid hG4
        have HM4 := Lib.hid (Mod.trans HR.out.mod hm4 (fun _ _ h => h))
        have HV4 := Lib.hid (own_keep HV.out hm4 (fun _ _ _ h => h))
        have hRC := rightFan_calls (gfanL L) A cp l w4 (HCL.out.keep hm4 (fun _ _ h => h)) (by omega)
        have HRC := Lib.hid hRC
        clear hm4 hG4 hRC
        have hok : gokFan L = (gEnds L x && rightFan (gfanL L) l) := by unfold gokFan; rw [HD3.out]
        obtain ⟨en, hen⟩ : ∃ en, gEnds L x = en := ⟨_, rfl⟩
        obtain ⟨rt, hrt⟩ : ∃ rt, rightFan (gfanL L) l = rt := ⟨_, rfl⟩
        rw [hen, hrt] at hok
        rw [hen]
        rw [hrt] at HRC
        have HOK := Lib.hid hok
        clear hen hrt hok
        go_wp2_with fail
        refine HRC.out.mono ?_
        rintro e w7 ⟨rfl, hm7⟩
        have HV7 := Lib.hid (own_keep HV4.out hm7 (fun _ _ _ h => h))
        have hG7 := HG4.out.keep hm7 (fun h => h)
        have z0 := hG7.cell (o := 0) rfl
        have z1 := hG7.cell (o := 1) rfl
        have hM7 := Mod.trans HM4.out hm7 (fun _ _ h => h)
        have hR7 := HR0.out.keep hM7 (fun h => h)
        have k0 := hR7.frozen 0
        have k1 := hR7.frozen 1
        have q0 := hR7.cell (o := 0) rfl
        have q1 := hR7.cell (o := 1) rfl
        have HM7 := Lib.hid (Mod.trans HM0.out hM7 (fun _ _ h => h))
        clear hm7 hM7 hR7 hG7 x0 x1
        cases en with
        | true =>
          cases rt with
          | true =>
            have hok : gokFan L = true := HOK.out
            have HOK := Lib.hid hok
            clear hok
            go_wp2_with fail
            refine bodyPost_ret (v := .tuple #[.agg #[.int .i64 (gfanL L), .slice A l.length cp], .int .i64 0]) (by simp [results, Tryd.results53, go_sem, q0, q1]) rfl ⟨_, by rw [HOK.out]; unfold goutFan; rw [if_pos HOK.out]; rfl, ?_, ?_⟩
            · unfold goutFan
              rw [if_pos HOK.out, HD3.out]
              exact own_base (own_keep (S := fun k => k = w.heap.size) HV7.out (((Mod.refl (fun k => k = w.heap.size) _).set1 rfl _ _).set1 rfl _ _) (fun k hk _ h => by have := HSZ.out; omega)) (by have := HSZ.out; omega)
            · exact (HM7.out.setCell (p := ⟨w.heap.size, 0, none⟩) (.inr (by simp)) _).setCell (p := ⟨w.heap.size, 1, none⟩) (.inr (by simp)) _
          | false =>
            have hok : gokFan L = false := HOK.out
            have HOK := Lib.hid hok
            clear hok
            go_wp2_with fail
            refine bodyPost_ret (v := .tuple #[.agg #[.int .i64 0, .slice none 0 0], .int .i64 81]) (by simp [results, Tryd.results53, go_sem, q0, q1]) rfl ⟨_, by rw [HOK.out]; unfold goutFan; rw [if_neg (by rw [HOK.out]; decide)]; rfl, ?_, ?_⟩
            · unfold goutFan
              rw [if_neg (by rw [HOK.out]; decide)]
              exact World.ownsRow_nil _ _ _ _
            · exact (HM7.out.setCell (p := ⟨w.heap.size, 0, none⟩) (.inr (by simp)) _).setCell (p := ⟨w.heap.size, 1, none⟩) (.inr (by simp)) _
        | false =>
          have hok : gokFan L = false := HOK.out
          have HOK := Lib.hid hok
          clear hok
          go_wp2_with fail
          refine bodyPost_ret (v := .tuple #[.agg #[.int .i64 0, .slice none 0 0], .int .i64 81]) (by simp [results, Tryd.results53, go_sem, q0, q1]) rfl ⟨_, by rw [HOK.out]; unfold goutFan; rw [if_neg (by rw [HOK.out]; decide)]; rfl, ?_, ?_⟩
          · unfold goutFan
            rw [if_neg (by rw [HOK.out]; decide)]
            exact World.ownsRow_nil _ _ _ _
          · exact (HM7.out.setCell (p := ⟨w.heap.size, 0, none⟩) (.inr (by simp)) _).setCell (p := ⟨w.heap.size, 1, none⟩) (.inr (by simp)) _
end Obj
end Go.Proofs.YthgcjfpaekpeeaaDoor
/- The walk of the reference's SameFan, of two that are the same. -/
namespace Go.Proofs.YthgcjfpaekpeeaaDoor
set_option linter.unusedVariables false
set_option linter.unusedSimpArgs false
open Go.RowKit K Wire
namespace Obj

end Obj
end Go.Proofs.YthgcjfpaekpeeaaDoor
