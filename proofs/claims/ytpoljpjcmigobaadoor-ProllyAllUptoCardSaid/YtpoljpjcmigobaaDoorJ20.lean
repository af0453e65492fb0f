/- Joined texts: ObjTi, ObjYb, ObjUb. -/
import Derived.Test.YtpoljpjcmigobaaDoorJ19
/- The walk of the reference's TakeBranch. -/
namespace Go.Proofs.YtpoljpjcmigobaaDoor
set_option linter.unusedVariables false
set_option linter.unusedSimpArgs false
open Go.RowKit K Wire
namespace Obj

def gLink (L : List UInt8) (x : RR) : Link × RR := (⟨⟨(gText L 64 x).1.toArray⟩, ⟨(gId L (gText L 64 x).2).1.toArray⟩, (gInt L (gId L (gText L 64 x).2).2).1⟩, (gInt L (gId L (gText L 64 x).2).2).2)
def gbranchL (L : List UInt8) : Int := (gInt L ⟨begunBad L 0x42, 1⟩).1
def gBranch (L : List UInt8) : RR × List Link :=
  gList (gLink L) (gCount L 64 (gInt L ⟨begunBad L 0x42, 1⟩).2).1.toNat (gCount L 64 (gInt L ⟨begunBad L 0x42, 1⟩).2).2 []
def gokBranch (L : List UInt8) : Bool := gEnds L (gBranch L).1 && rightBranch (gbranchL L) (gBranch L).2
def goutBranch (L : List UInt8) : Int × List Link := if gokBranch L then (gbranchL L, (gBranch L).2) else (0, [])

set_option maxRecDepth 100000 in
set_option maxHeartbeats 2000000 in
theorem rTakeBranch_calls (s : ByteArray) (w : World) (hs : s.size ≤ 100000000) :
    Calls Tryd.prog 71 #[.string s] w fun e w' => ∃ v, e = .returned (.tuple #[.agg #[.int .i64 (goutBranch s.data.toList).1, v], errV (gokBranch s.data.toList)]) ∧ w'.ownsRow w.heap.size 67 3 v (goutBranch s.data.toList).2.length ((goutBranch s.data.toList).2.flatMap lc) ∧ Mod (fun _ => False) w w' := by
  have hL : s.data.toList.length ≤ 100000000 := by simpa using hs
  have H0 := Lib.hid (begun_calls s 66 (w.alloc (.cells #[.int .i64 0, .slice none 0 0] 72)) hs)
  clear hs
  generalize s.data.toList = L at *
  go_enter Tryd.func71, Tryd.ntmps71
  go_wp2_with fail
  refine H0.out.mono ?_
  rintro e w1 ⟨b, rfl, h1⟩
  have hR := Has.new w [.int .i64 0, .slice none 0 0] 72
  have hM0 := (Mod.refl (fun _ => False) w).alloc (.cells #[.int .i64 0, .slice none 0 0] 72)
  have hsz : w.heap.size + 1 = (w.alloc (.cells #[.int .i64 0, .slice none 0 0] 72)).heap.size := by simp
  clear H0
  generalize w.alloc (.cells #[.int .i64 0, .slice none 0 0] 72) = w0 at *
  have HR0 := Lib.hid hR
  have HM0 := Lib.hid hM0
  have HSZ := Lib.hid hsz
  have H1 := Lib.hid h1
  clear h1 hR hM0 hsz
  go_wp2_with fail
  refine (gInt_calls H1.out hL).mono ?_
  rintro e w2 ⟨rfl, h2, _⟩
  have hdef : gBranch L = gList (gLink L) (gCount L 64 (gInt L ⟨begunBad L 0x42, 1⟩).2).1.toNat (gCount L 64 (gInt L ⟨begunBad L 0x42, 1⟩).2).2 [] := rfl
  have hlv : gbranchL L = (gInt L ⟨begunBad L 0x42, 1⟩).1 := rfl
  rw [← hlv] at *
  generalize (gInt L ⟨begunBad L 0x42, 1⟩).2 = xa at *
  have HDEF := Lib.hid hdef
  have H2 := Lib.hid h2
  clear hdef h2 H1 hlv
  go_wp2_with fail
  refine (gCount_calls (H2.out.alloc _) 64 hL).mono ?_
  rintro e w3 ⟨rfl, h3, hm3⟩
  have hgb : w2.heap.size ≠ b := by
    obtain ⟨A, c, hA⟩ := H2.out.ex
    have := hA.has.lt; omega
  have HGB := Lib.hid hgb
  have HGZ := Lib.hid H2.out.mod.size
  have hG3 := (Has.new w2 [.int .i64 (gbranchL L), .slice none 0 0] 72).keep hm3 hgb
  have HG3 := Lib.hid hG3
  have hin := gCount_in L 64 xa (by omega)
  generalize (gCount L 64 xa).1 = n at *
  generalize (gCount L 64 xa).2 = x1 at *
  have H3 := Lib.hid h3
  have hv0 : w3.ownsRow w0.heap.size 67 3 (.slice none 0 0) ([] : List Link).length (([] : List Link).flatMap lc) := World.ownsRow_nil _ _ _ _
  have HV0 := Lib.hid hv0
  clear hv0 h3 hm3 hgb hG3 H2
  go_wp2_with fail
  go_loopw [7] (fun m wr => ∃ (z : Int) (x : RR) (l : List Link) (v : Value), m = .int .i64 z ∧ (0 ≤ z ∧ z ≤ n) ∧ (l.length : Int) = z ∧
    Hid (gBranch L = gList (gLink L) (n - z).toNat x l) ∧ Hid (Rg w0 b L x wr) ∧ Hid (wr.ownsRow w0.heap.size 67 3 v l.length (l.flatMap lc)) ∧ Hid (Has wr w2.heap.size [.int .i64 (gbranchL L), v] 72)) (fun m _ => (n - intOf m).toNat)
  case atStart =>
    exact ⟨0, x1, [], .slice none 0 0, by go_num, ⟨by omega, by omega⟩, rfl, by rw [Int.sub_zero]; exact HDEF, H3, HV0, HG3⟩
  case round =>
    obtain ⟨z, x, l, v, rfl, hz, hx, HD, HR, HV, HG⟩ := hrel
    have c1 := HR.out.bad
    have hn32 : n ≤ 64 := hin.2
    have hl32 : l.length ≤ 64 := by omega
    by_cases hb : x.bad = true
    · rw [hb] at c1
      by_cases i1 : z < n
      ·
        have HSTOP : (n - z).toNat = 0 ∨ x.bad = true := .inr hb
        clear hb
        have HD3 := Lib.hid (show gBranch L = (x, l) by rw [HD.out]; exact gList_stop _ _ _ _ HSTOP)
        clear hx HD
        obtain ⟨A, cp, rfl, _, hcl, _, _⟩ := own_cells HV.out
        have HCL := Lib.hid hcl
        clear hcl
        go_wp2_with fail
        refine (gEnds_calls HR.out hL).mono ?_
        rintro e w4 ⟨rfl, hm4⟩
        have hG4 := HG.out.keep hm4 (fun h => h)
        have x0 := hG4.cell (o := 0) rfl
        have x1 := hG4.cell (o := 1) rfl
        have HG4 := Lib.hid hG4
        have HM4 := Lib.hid (Mod.trans HR.out.mod hm4 (fun _ _ h => h))
        have HV4 := Lib.hid (own_keep HV.out hm4 (fun _ _ _ h => h))
        have hRC := rightBranch_calls (gbranchL L) A cp l w4 (HCL.out.keep hm4 (fun _ _ h => h)) (by omega)
        have HRC := Lib.hid hRC
        clear hm4 hG4 hRC
        have hok : gokBranch L = (gEnds L x && rightBranch (gbranchL L) l) := by unfold gokBranch; rw [HD3.out]
        obtain ⟨en, hen⟩ : ∃ en, gEnds L x = en := ⟨_, rfl⟩
        obtain ⟨rt, hrt⟩ : ∃ rt, rightBranch (gbranchL L) l = rt := ⟨_, rfl⟩
        rw [hen, hrt] at hok
        rw [hen]
        rw [hrt] at HRC
        have HOK := Lib.hid hok
        clear hen hrt hok
        go_wp2_with fail
        refine HRC.out.mono ?_
        rintro e w7 ⟨rfl, hm7⟩
        have HV7 := Lib.hid (own_keep HV4.out hm7 (fun _ _ _ h => h))
        have hG7 := HG4.out.keep hm7 (fun h => h)
        have z0 := hG7.cell (o := 0) rfl
        have z1 := hG7.cell (o := 1) rfl
        have hM7 := Mod.trans HM4.out hm7 (fun _ _ h => h)
        have hR7 := HR0.out.keep hM7 (fun h => h)
        have k0 := hR7.frozen 0
        have k1 := hR7.frozen 1
        have q0 := hR7.cell (o := 0) rfl
        have q1 := hR7.cell (o := 1) rfl
        have HM7 := Lib.hid (Mod.trans HM0.out hM7 (fun _ _ h => h))
        clear hm7 hM7 hR7 hG7 x0 x1
        cases en with
        | true =>
          cases rt with
          | true =>
            have hok : gokBranch L = true := HOK.out
            have HOK := Lib.hid hok
            clear hok
            go_wp2_with fail
            refine bodyPost_ret (v := .tuple #[.agg #[.int .i64 (gbranchL L), .slice A l.length cp], .int .i64 0]) (by simp [results, Tryd.results71, go_sem, q0, q1]) rfl ⟨_, by rw [HOK.out]; unfold goutBranch; rw [if_pos HOK.out]; rfl, ?_, ?_⟩
            · unfold goutBranch
              rw [if_pos HOK.out, HD3.out]
              exact own_base (own_keep (S := fun k => k = w.heap.size) HV7.out (((Mod.refl (fun k => k = w.heap.size) _).set1 rfl _ _).set1 rfl _ _) (fun k hk _ h => by have := HSZ.out; omega)) (by have := HSZ.out; omega)
            · exact (HM7.out.setCell (p := ⟨w.heap.size, 0, none⟩) (.inr (by simp)) _).setCell (p := ⟨w.heap.size, 1, none⟩) (.inr (by simp)) _
          | false =>
            have hok : gokBranch L = false := HOK.out
            have HOK := Lib.hid hok
            clear hok
            go_wp2_with fail
            refine bodyPost_ret (v := .tuple #[.agg #[.int .i64 0, .slice none 0 0], .int .i64 81]) (by simp [results, Tryd.results71, go_sem, q0, q1]) rfl ⟨_, by rw [HOK.out]; unfold goutBranch; rw [if_neg (by rw [HOK.out]; decide)]; rfl, ?_, ?_⟩
            · unfold goutBranch
              rw [if_neg (by rw [HOK.out]; decide)]
              exact World.ownsRow_nil _ _ _ _
            · exact (HM7.out.setCell (p := ⟨w.heap.size, 0, none⟩) (.inr (by simp)) _).setCell (p := ⟨w.heap.size, 1, none⟩) (.inr (by simp)) _
        | false =>
          have hok : gokBranch L = false := HOK.out
          have HOK := Lib.hid hok
          clear hok
          go_wp2_with fail
          refine bodyPost_ret (v := .tuple #[.agg #[.int .i64 0, .slice none 0 0], .int .i64 81]) (by simp [results, Tryd.results71, go_sem, q0, q1]) rfl ⟨_, by rw [HOK.out]; unfold goutBranch; rw [if_neg (by rw [HOK.out]; decide)]; rfl, ?_, ?_⟩
          · unfold goutBranch
            rw [if_neg (by rw [HOK.out]; decide)]
            exact World.ownsRow_nil _ _ _ _
          · exact (HM7.out.setCell (p := ⟨w.heap.size, 0, none⟩) (.inr (by simp)) _).setCell (p := ⟨w.heap.size, 1, none⟩) (.inr (by simp)) _
      ·
        have HSTOP : (n - z).toNat = 0 ∨ x.bad = true := .inr hb
        clear hb
        have HD3 := Lib.hid (show gBranch L = (x, l) by rw [HD.out]; exact gList_stop _ _ _ _ HSTOP)
        clear hx HD
        obtain ⟨A, cp, rfl, _, hcl, _, _⟩ := own_cells HV.out
        have HCL := Lib.hid hcl
        clear hcl
        go_wp2_with fail
        refine (gEnds_calls HR.out hL).mono ?_
        rintro e w4 ⟨rfl, hm4⟩
        have hG4 := HG.out.keep hm4 (fun h => h)
        have x0 := hG4.cell (o := 0) rfl
        have x1 := hG4.cell (o := 1) rfl
        have HG4 := Lib.hid hG4
        have HM4 := Lib.hid (Mod.trans HR.out.mod hm4 (fun _ _ h => h))
        have HV4 := Lib.hid (own_keep HV.out hm4 (fun _ _ _ h => h))
        have hRC := rightBranch_calls (gbranchL L) A cp l w4 (HCL.out.keep hm4 (fun _ _ h => h)) (by omega)
        have HRC := Lib.hid hRC
        clear hm4 hG4 hRC
        have hok : gokBranch L = (gEnds L x && rightBranch (gbranchL L) l) := by unfold gokBranch; rw [HD3.out]
        obtain ⟨en, hen⟩ : ∃ en, gEnds L x = en := ⟨_, rfl⟩
        obtain ⟨rt, hrt⟩ : ∃ rt, rightBranch (gbranchL L) l = rt := ⟨_, rfl⟩
        rw [hen, hrt] at hok
        rw [hen]
        rw [hrt] at HRC
        have HOK := Lib.hid hok
        clear hen hrt hok
        go_wp2_with fail
        refine HRC.out.mono ?_
        rintro e w7 ⟨rfl, hm7⟩
        have HV7 := Lib.hid (own_keep HV4.out hm7 (fun _ _ _ h => h))
        have hG7 := HG4.out.keep hm7 (fun h => h)
        have z0 := hG7.cell (o := 0) rfl
        have z1 := hG7.cell (o := 1) rfl
        have hM7 := Mod.trans HM4.out hm7 (fun _ _ h => h)
        have hR7 := HR0.out.keep hM7 (fun h => h)
        have k0 := hR7.frozen 0
        have k1 := hR7.frozen 1
        have q0 := hR7.cell (o := 0) rfl
        have q1 := hR7.cell (o := 1) rfl
        have HM7 := Lib.hid (Mod.trans HM0.out hM7 (fun _ _ h => h))
        clear hm7 hM7 hR7 hG7 x0 x1
        cases en with
        | true =>
          cases rt with
          | true =>
            have hok : gokBranch L = true := HOK.out
            have HOK := Lib.hid hok
            clear hok
            go_wp2_with fail
            refine bodyPost_ret (v := .tuple #[.agg #[.int .i64 (gbranchL L), .slice A l.length cp], .int .i64 0]) (by simp [results, Tryd.results71, go_sem, q0, q1]) rfl ⟨_, by rw [HOK.out]; unfold goutBranch; rw [if_pos HOK.out]; rfl, ?_, ?_⟩
            · unfold goutBranch
              rw [if_pos HOK.out, HD3.out]
              exact own_base (own_keep (S := fun k => k = w.heap.size) HV7.out (((Mod.refl (fun k => k = w.heap.size) _).set1 rfl _ _).set1 rfl _ _) (fun k hk _ h => by have := HSZ.out; omega)) (by have := HSZ.out; omega)
            · exact (HM7.out.setCell (p := ⟨w.heap.size, 0, none⟩) (.inr (by simp)) _).setCell (p := ⟨w.heap.size, 1, none⟩) (.inr (by simp)) _
          | false =>
            have hok : gokBranch L = false := HOK.out
            have HOK := Lib.hid hok
            clear hok
            go_wp2_with fail
            refine bodyPost_ret (v := .tuple #[.agg #[.int .i64 0, .slice none 0 0], .int .i64 81]) (by simp [results, Tryd.results71, go_sem, q0, q1]) rfl ⟨_, by rw [HOK.out]; unfold goutBranch; rw [if_neg (by rw [HOK.out]; decide)]; rfl, ?_, ?_⟩
            · unfold goutBranch
              rw [if_neg (by rw [HOK.out]; decide)]
              exact World.ownsRow_nil _ _ _ _
            · exact (HM7.out.setCell (p := ⟨w.heap.size, 0, none⟩) (.inr (by simp)) _).setCell (p := ⟨w.heap.size, 1, none⟩) (.inr (by simp)) _
        | false =>
          have hok : gokBranch L = false := HOK.out
          have HOK := Lib.hid hok
          clear hok
          go_wp2_with fail
          refine bodyPost_ret (v := .tuple #[.agg #[.int .i64 0, .slice none 0 0], .int .i64 81]) (by simp [results, Tryd.results71, go_sem, q0, q1]) rfl ⟨_, by rw [HOK.out]; unfold goutBranch; rw [if_neg (by rw [HOK.out]; decide)]; rfl, ?_, ?_⟩
          · unfold goutBranch
            rw [if_neg (by rw [HOK.out]; decide)]
            exact World.ownsRow_nil _ _ _ _
          · exact (HM7.out.setCell (p := ⟨w.heap.size, 0, none⟩) (.inr (by simp)) _).setCell (p := ⟨w.heap.size, 1, none⟩) (.inr (by simp)) _
    · have hb0 : x.bad = false := by simpa using hb
      rw [hb0] at c1
      by_cases i1 : z < n
      · have hstep : gBranch L = gList (gLink L) (n - (z + 1)).toNat (gLink L x).2 (l ++ [(gLink L x).1]) := by
          rw [HD.out, show (n - z).toNat = (n - (z + 1)).toNat + 1 by omega, gList_go _ _ _ _ hb0]
        have HST := Lib.hid hstep
        clear hb hb0 hstep HD
        obtain ⟨A, cp, rfl, _, hcl, _, _⟩ := own_cells HV.out
        clear hcl
        go_wp2_with fail
        refine (gText_calls HR.out 64 hL).mono ?_
        rintro e w3 ⟨rfl, h3, hm3⟩
        have HV3 := Lib.hid (own_keep HV.out hm3 (fun k _ hk hkb => by
          obtain ⟨A, c, hA⟩ := HR.out.ex
          exact has_ne hA.has (own_row HV.out hk) (by decide) hkb))
        have HG3' := Lib.hid (HG.out.keep hm3 HGB.out)
        have H3' := Lib.hid h3
        clear h3 hm3
        go_wp2_with fail
        refine (gId_calls H3'.out hL).mono ?_
        rintro e w4 ⟨rfl, h4, hm4⟩
        have HV4 := Lib.hid (own_keep HV3.out hm4 (fun k _ hk hkb => by
          obtain ⟨A, c, hA⟩ := H3'.out.ex
          exact has_ne hA.has (own_row HV3.out hk) (by decide) hkb))
        have HG4 := Lib.hid (HG3'.out.keep hm4 HGB.out)
        have H4 := Lib.hid h4
        clear h4 hm4 HV3 HG3' H3'
        go_wp2_with fail
        refine (gInt_calls H4.out hL).mono ?_
        rintro e w5 ⟨rfl, h5, hm5⟩
        have HV5 := Lib.hid (own_keep HV4.out hm5 (fun k _ hk hkb => by
          obtain ⟨A, c, hA⟩ := H4.out.ex
          exact has_ne hA.has (own_row HV4.out hk) (by decide) hkb))
        have hG5 := HG4.out.keep hm5 HGB.out
        have x1 := hG5.cell (o := 1) rfl
        have hgl := hG5.lt
        have HG5 := Lib.hid hG5
        generalize hP : (gLink L x).1 = P at *
        have e0 : (⟨(gText L 64 x).1.toArray⟩ : ByteArray) = P.last := by rw [← hP]; rfl
        have e1 : (⟨(gId L (gText L 64 x).2).1.toArray⟩ : ByteArray) = P.id := by rw [← hP]; rfl
        have e2 : (gInt L (gId L (gText L 64 x).2).2).1 = P.many := by rw [← hP]; rfl
        have e3 : (gInt L (gId L (gText L 64 x).2).2).2 = (gLink L x).2 := rfl
        rw [e0, e1, e2]
        rw [e3] at h5
        generalize (gLink L x).2 = x4 at *
        have H5 := Lib.hid h5
        have HVA := Lib.hid (HV5.out.alloc (.cells #[.string P.last, .string P.id, .int .i64 P.many] 67))
        have hbs : w0.heap.size ≤ w5.heap.size := h5.mod.size
        clear hP e0 e1 e2 e3 h5 hm5 hG5 HV4 HG4 H4
        go_wp2_with (first
          | (at_builtin
             go_must (refine app (.tmp 39) (.tmp 44) link_t w0.heap.size (.slice A l.length cp) l.length (l.flatMap lc) HVA.out ⟨w5.heap.size, 0, none⟩ 1 1 [.string P.last, .string P.id, .int .i64 P.many] rfl rfl rfl rfl rfl (cells_new w5 _ _) (by intro u hu; simp at hu; rcases hu with rfl | rfl | rfl <;> rfl) (by omega) (by unfold maxLen; omega) (by simp; omega) ?_; intro v6 w6 ho hm6)
             obtain ⟨A6, c6, rfl, _, _, _, _⟩ := own_cells ho
             have hRA := H5.out.alloc (.cells #[.string P.last, .string P.id, .int .i64 P.many] 67)
             have hG6 := (HG5.out.alloc (.cells #[.string P.last, .string P.id, .int .i64 P.many] 67)).keep hm6 (fun hs => has_ne (HG5.out.alloc _) (own_row HVA.out hs.2) (by decide) rfl)
             have h6 : Rg w0 b L x4 w6 := hRA.keep hm6 (fun hs => by
               obtain ⟨A, c, hA⟩ := hRA.ex
               exact has_ne hA.has (own_row HVA.out hs.2) (by decide) rfl) (fun k hk hs => byteRow_ne hk (own_row HVA.out hs.2) (by decide)) (fun k hk hs => by omega)
             have y1 := hG6.frozen 1
             have q1 := hG6.cell (o := 1) rfl
             have HG6 := Lib.hid hG6
             have H6 := Lib.hid h6
             have HO := Lib.hid ho
             clear hRA hG6 h6 ho hm6))
        have hmS := (Mod.refl (fun k => k = w2.heap.size) w6).set1 rfl 1 (.slice A6 (l.length + 1) c6)
        have h7 : Rg w0 b L x4 (w6.setCell ⟨w2.heap.size, 1, none⟩ (.slice A6 (l.length + 1) c6)) := H6.out.keep hmS (fun h => HGB.out h.symm) (fun k ⟨cur, fz, hk⟩ hs => has_ne HG6.out ⟨cur, fz, by rw [← hs]; exact hk⟩ (by decide) rfl) (fun k hk hs => by have := HGZ.out; omega)
        have hv6 := own_keep HO.out hmS (fun k _ hk hs => has_ne HG6.out (own_row HO.out hk) (by decide) hs)
        have hv7 : (w6.setCell ⟨w2.heap.size, 1, none⟩ (.slice A6 (l.length + 1) c6)).ownsRow w0.heap.size 67 3 (.slice A6 (l.length + 1) c6) (l ++ [P]).length ((l ++ [P]).flatMap lc) := by rw [List.length_append, List.flatMap_append]; exact hv6
        have H7 := Lib.hid h7
        have HV7 := Lib.hid hv7
        have HG7 := Lib.hid (HG6.out.set 1 (.slice A6 (l.length + 1) c6))
        clear hmS h7 hv6 hv7 x1 y1 q1 HVA
        go_wp2_with fail
        go_roundw
        case rel => exact ⟨z + 1, x4, l ++ [P], _, by go_num, by omega, by simp; omega, HST, H7, HV7, HG7⟩
        case measure => simp [intOf]; omega
      ·
        have HSTOP : (n - z).toNat = 0 ∨ x.bad = true := .inl (by omega)
        clear hb hb0
        have HD3 := Lib.hid (show gBranch L = (x, l) by rw [HD.out]; exact gList_stop _ _ _ _ HSTOP)
        clear hx HD
        obtain ⟨A, cp, rfl, _, hcl, _, _⟩ := own_cells HV.out
        have HCL := Lib.hid hcl
        clear hcl
        go_wp2_with fail
        refine (gEnds_calls HR.out hL).mono ?_
        rintro e w4 ⟨rfl, hm4⟩
        have hG4 := HG.out.keep hm4 (fun h => h)
        have x0 := hG4.cell (o := 0) rfl
        have x1 := hG4.cell (o := 1) rfl
        have HG4 := Lib.hid hG4
        have HM4 := Lib.hid (Mod.trans HR.out.mod hm4 (fun _ _ h => h))
        have HV4 := Lib.hid (own_keep HV.out hm4 (fun _ _ _ h => h))
        have hRC := rightBranch_calls (gbranchL L) A cp l w4 (HCL.out.keep hm4 (fun _ _ h => h)) (by omega)
        have HRC := Lib.hid hRC
        clear hm4 hG4 hRC
        have hok : gokBranch L = (gEnds L x && rightBranch (gbranchL L) l) := by unfold gokBranch; rw [HD3.out]
        obtain ⟨en, hen⟩ : ∃ en, gEnds L x = en := ⟨_, rfl⟩
        obtain ⟨rt, hrt⟩ : ∃ rt, rightBranch (gbranchL L) l = rt := ⟨_, rfl⟩
        rw [hen, hrt] at hok
        rw [hen]
        rw [hrt] at HRC
        have HOK := Lib.hid hok
        clear hen hrt hok
        go_wp2_with fail
        refine HRC.out.mono ?_
        rintro e w7 ⟨rfl, hm7⟩
        have HV7 := Lib.hid (own_keep HV4.out hm7 (fun _ _ _ h => h))
        have hG7 := HG4.out.keep hm7 (fun h => h)
        have z0 := hG7.cell (o := 0) rfl
        have z1 := hG7.cell (o := 1) rfl
        have hM7 := Mod.trans HM4.out hm7 (fun _ _ h => h)
        have hR7 := HR0.out.keep hM7 (fun h => h)
        have k0 := hR7.frozen 0
        have k1 := hR7.frozen 1
        have q0 := hR7.cell (o := 0) rfl
        have q1 := hR7.cell (o := 1) rfl
        have HM7 := Lib.hid (Mod.trans HM0.out hM7 (fun _ _ h => h))
        clear hm7 hM7 hR7 hG7 x0 x1
        cases en with
        | true =>
          cases rt with
          | true =>
            have hok : gokBranch L = true := HOK.out
            have HOK := Lib.hid hok
            clear hok
            go_wp2_with fail
            refine bodyPost_ret (v := .tuple #[.agg #[.int .i64 (gbranchL L), .slice A l.length cp], .int .i64 0]) (by simp [results, Tryd.results71, go_sem, q0, q1]) rfl ⟨_, by rw [HOK.out]; unfold goutBranch; rw [if_pos HOK.out]; rfl, ?_, ?_⟩
            · unfold goutBranch
              rw [if_pos HOK.out, HD3.out]
              exact own_base (own_keep (S := fun k => k = w.heap.size) HV7.out (((Mod.refl (fun k => k = w.heap.size) _).set1 rfl _ _).set1 rfl _ _) (fun k hk _ h => by have := HSZ.out; omega)) (by have := HSZ.out; omega)
            · exact (HM7.out.setCell (p := ⟨w.heap.size, 0, none⟩) (.inr (by simp)) _).setCell (p := ⟨w.heap.size, 1, none⟩) (.inr (by simp)) _
          | false =>
            have hok : gokBranch L = false := HOK.out
            have HOK := Lib.hid hok
            clear hok
            go_wp2_with fail
            refine bodyPost_ret (v := .tuple #[.agg #[.int .i64 0, .slice none 0 0], .int .i64 81]) (by simp [results, Tryd.results71, go_sem, q0, q1]) rfl ⟨_, by rw [HOK.out]; unfold goutBranch; rw [if_neg (by rw [HOK.out]; decide)]; rfl, ?_, ?_⟩
            · unfold goutBranch
              rw [if_neg (by rw [HOK.out]; decide)]
              exact World.ownsRow_nil _ _ _ _
            · exact (HM7.out.setCell (p := ⟨w.heap.size, 0, none⟩) (.inr (by simp)) _).setCell (p := ⟨w.heap.size, 1, none⟩) (.inr (by simp)) _
        | false =>
          have hok : gokBranch L = false := HOK.out
          have HOK := Lib.hid hok
          clear hok
          go_wp2_with fail
          refine bodyPost_ret (v := .tuple #[.agg #[.int .i64 0, .slice none 0 0], .int .i64 81]) (by simp [results, Tryd.results71, go_sem, q0, q1]) rfl ⟨_, by rw [HOK.out]; unfold goutBranch; rw [if_neg (by rw [HOK.out]; decide)]; rfl, ?_, ?_⟩
          · unfold goutBranch
            rw [if_neg (by rw [HOK.out]; decide)]
            exact World.ownsRow_nil _ _ _ _
          · exact (HM7.out.setCell (p := ⟨w.heap.size, 0, none⟩) (.inr (by simp)) _).setCell (p := ⟨w.heap.size, 1, none⟩) (.inr (by simp)) _
end Obj
end Go.Proofs.YtpoljpjcmigobaaDoor
/- Plain laws: both readers of branches agree. -/
namespace Go.Proofs.YtpoljpjcmigobaaDoor
set_option linter.unusedVariables false
set_option linter.unusedSimpArgs false
open Go.RowKit K Wire
namespace Obj

theorem linkB_pre (L : List UInt8) (a : Link) (ha : linkOk a = true) (p r : List UInt8) (hL : L = p ++ (linkB a ++ r)) : rdLink L (pre p) = (a, pre (p ++ linkB a)) := by
  simp only [linkOk, Bool.and_eq_true, decide_eq_true_eq] at ha
  have b1 := ha.1.1
  have b3 := ha.2
  simp only [inR, Bool.and_eq_true, decide_eq_true_eq] at b1 b3
  have n1 : a.last.data.toList.length = a.last.size := by simp
  have n2 : a.id.data.toList.length = 32 := by rw [← ha.1.2]; simp
  have h1 : tText L 1 64 (pre p) = (a.last.data.toList, pre (p ++ encT a.last.data.toList)) := by
    rw [hL, linkB, List.append_assoc]; exact tText_pre p _ _ 1 64 (by rw [n1]; exact ha.1.1) (by omega)
  have h2 : tId L (pre (p ++ encT a.last.data.toList)) = (a.id.data.toList, pre (p ++ encT a.last.data.toList ++ a.id.data.toList)) := by
    rw [hL, linkB, show p ++ (encT a.last.data.toList ++ (a.id.data.toList ++ enc a.many) ++ r) = (p ++ encT a.last.data.toList) ++ (a.id.data.toList ++ (enc a.many ++ r)) by simp]
    exact tId_pre _ _ _ n2
  have h3 : tInt L 1 4096 (pre (p ++ encT a.last.data.toList ++ a.id.data.toList)) = (a.many, pre (p ++ encT a.last.data.toList ++ a.id.data.toList ++ enc a.many)) := by
    rw [hL, linkB, show p ++ (encT a.last.data.toList ++ (a.id.data.toList ++ enc a.many) ++ r) = (p ++ encT a.last.data.toList ++ a.id.data.toList) ++ (enc a.many ++ r) by simp]
    exact tInt_pre _ _ _ _ _ (by unfold In64; omega) ha.2
  unfold rdLink
  rw [h1]; dsimp only; rw [h2]; dsimp only; rw [h3]
  simp [linkB]
theorem rdLink_got (L : List UInt8) (x : RS) (hp : 0 ≤ x.p) (h : (rdLink L x).2.bad = false) : x.bad = false ∧ (rdLink L x).2.l = x.l ++ linkB (rdLink L x).1 ∧ linkOk (rdLink L x).1 = true := by
  obtain ⟨h1, h2, h3⟩ := tInt_got L 1 4096 (tId L (tText L 1 64 x).2).2 h
  obtain ⟨h4, h5, h6⟩ := tId_got L (tText L 1 64 x).2 (tText_p L 1 64 x hp) h1
  obtain ⟨h7, h8, h9⟩ := tText_got L 1 64 x h4
  refine ⟨h7, ?_, ?_⟩
  · show (tInt L 1 4096 (tId L (tText L 1 64 x).2).2).2.l = _
    rw [h2, h5, h8]; simp [linkB, rdLink]
  · unfold linkOk
    rw [show inR ((rdLink L x).1.last.size : Int) 1 64 = true from h9, show inR (rdLink L x).1.many 1 4096 = true from h3, Bool.and_true, Bool.true_and, decide_eq_true_eq]
    exact h6
theorem rdLink_p (L : List UInt8) (x : RS) (h : 0 ≤ x.p) : 0 ≤ (rdLink L x).2.p := tInt_p L 1 4096 _ (tId_p L _ (tText_p L 1 64 x h))
theorem link_sums {l : List Link} (h : l.all linkOk = true) : ∀ s ∈ l.map (·.many), 0 ≤ s := by
  intro s hs
  obtain ⟨p, hp, rfl⟩ := List.mem_map.1 hs
  have := List.all_eq_true.1 h p hp
  simp only [linkOk, inR, Bool.and_eq_true, decide_eq_true_eq] at this
  omega
theorem branch_sound (L : List UInt8) (h : okBranch L = true) : L = branchB (branchL L) (rdBranch L).2 ∧ rightBranch (branchL L) (rdBranch L).2 = true := by
  unfold okBranch wholeB at h
  rw [Bool.and_eq_true, decide_eq_true_eq] at h
  obtain ⟨hb, hl⟩ := h
  obtain ⟨hb0, hcap⟩ := ask_bad (by simpa using hb)
  obtain ⟨hb1, hris⟩ := ask_bad hb0
  have hp1 := tInt_p L 1 20 ⟨[0x42], false, 1⟩ (by show (0:Int) ≤ 1; omega)
  have hp2 := tInt_p L 1 64 _ hp1
  obtain ⟨hb2, l, h2, h3, h4, h5⟩ := rdList_got (rdLink L) linkB linkOk (rdLink_p L) (rdLink_got L) _ _ [] hp2 hb1
  obtain ⟨hb3, h6, h7⟩ := tInt_got _ _ _ _ hb2
  obtain ⟨_, h8, h9⟩ := tInt_got _ _ _ _ hb3
  have hk : (rdBranch L).2 = l := by rw [show rdBranch L = _ from rfl]; simpa [rdBranch] using h2
  have hx : (rdBranch L).1.l = L := hl
  have hn : (tInt L 1 64 (tInt L 1 20 ⟨[0x42], false, 1⟩).2).1 = (l.length : Int) := by
    simp only [inR, Bool.and_eq_true, decide_eq_true_eq] at h7
    omega
  rw [hk]
  constructor
  · refine hx.symm.trans ?_
    show (rdList _ _ _ _).1.l = _
    rw [h4, h6, h8, hn]
    simp [branchB, branchL]
  · unfold rightBranch
    rw [hk] at hcap hris
    rw [capSum_le 4096 (by omega) _ (link_sums h5)] at hcap
    rw [hn] at h7
    rw [hcap, hris, h5, h7]
    show (inR (branchL L) 1 20 && true && true && true && true) = true
    rw [show inR (branchL L) 1 20 = true from h9]; rfl
theorem branch_pre (level : Int) (kids : List Link) (h : rightBranch level kids = true) : branchL (branchB level kids) = level ∧ rdBranch (branchB level kids) = (pre (branchB level kids), kids) := by
  simp only [rightBranch, Bool.and_eq_true] at h
  obtain ⟨⟨⟨⟨h1, h2⟩, h3⟩, _⟩, h4⟩ := h
  have i1 : In64 level := by simp only [inR, Bool.and_eq_true, decide_eq_true_eq] at h1; unfold In64; omega
  have i2 : In64 (kids.length : Int) := by simp only [inR, Bool.and_eq_true, decide_eq_true_eq] at h2; unfold In64; omega
  obtain ⟨L, hL⟩ : ∃ L, L = branchB level kids := ⟨_, rfl⟩
  have e0 : (⟨[0x42], false, 1⟩ : RS) = pre [0x42] := rfl
  have e1 : tInt L 1 20 (pre [0x42]) = (level, pre ([0x42] ++ enc level)) := by
    rw [hL]; exact tInt_pre [0x42] (enc (kids.length : Int) ++ kids.flatMap linkB) level 1 20 i1 h1
  have e2 : tInt L 1 64 (pre ([0x42] ++ enc level)) = ((kids.length : Int), pre ([0x42] ++ enc level ++ enc (kids.length : Int))) := by
    rw [hL, show branchB level kids = ([0x42] ++ enc level) ++ (enc (kids.length : Int) ++ kids.flatMap linkB) by simp [branchB]]
    exact tInt_pre _ _ _ 1 64 i2 h2
  have e3 := rdList_pre L (rdLink L) linkB kids ([0x42] ++ enc level ++ enc (kids.length : Int)) [] [] (by rw [hL]; simp [branchB]) (fun a ha p r hp =>
    linkB_pre L a (List.all_eq_true.1 h3 a ha) p r hp)
  have e4 : [0x42] ++ enc level ++ enc (kids.length : Int) ++ kids.flatMap linkB = L := by rw [hL]; simp [branchB]
  rw [e4] at e3
  rw [← hL]
  unfold branchL rdBranch
  rw [e0, e1]; dsimp only
  rw [e2]; dsimp only
  rw [Int.toNat_natCast, e3]
  exact ⟨rfl, rfl⟩
theorem branch_complete (level : Int) (kids : List Link) (h : rightBranch level kids = true) : okBranch (branchB level kids) = true ∧ outBranch (branchB level kids) = (level, kids) := by
  obtain ⟨h1, h2⟩ := branch_pre level kids h
  simp only [rightBranch, Bool.and_eq_true] at h
  have hok : okBranch (branchB level kids) = true := by
    unfold okBranch
    rw [h2]
    dsimp only
    rw [capSum_le 4096 (by omega) _ (link_sums h.1.1.2), h.2, h.1.2]
    simp [wholeB, RS.ask, pre]
  exact ⟨hok, by unfold outBranch; rw [if_pos hok, h1, h2]⟩

theorem gLink_pre (L : List UInt8) (a : Link) (ha : linkOk a = true) (p r : List UInt8) (hL : L = p ++ (linkB a ++ r)) : gLink L (gpre p) = (a, gpre (p ++ linkB a)) := by
  simp only [linkOk, Bool.and_eq_true, decide_eq_true_eq] at ha
  have b1 := ha.1.1
  have b3 := ha.2
  simp only [inR, Bool.and_eq_true, decide_eq_true_eq] at b1 b3
  have n1 : a.last.data.toList.length = a.last.size := by simp
  have n2 : a.id.data.toList.length = 32 := by rw [← ha.1.2]; simp
  have h1 : gText L 64 (gpre p) = (a.last.data.toList, gpre (p ++ encT a.last.data.toList)) := by
    rw [hL, linkB, List.append_assoc]; exact gText_pre p _ _ 64 (by rw [n1]; omega) (by omega)
  have h2 : gId L (gpre (p ++ encT a.last.data.toList)) = (a.id.data.toList, gpre (p ++ encT a.last.data.toList ++ a.id.data.toList)) := by
    rw [hL, linkB, show p ++ (encT a.last.data.toList ++ (a.id.data.toList ++ enc a.many) ++ r) = (p ++ encT a.last.data.toList) ++ (a.id.data.toList ++ (enc a.many ++ r)) by simp]
    exact gId_pre _ _ _ n2
  have h3 : gInt L (gpre (p ++ encT a.last.data.toList ++ a.id.data.toList)) = (a.many, gpre (p ++ encT a.last.data.toList ++ a.id.data.toList ++ enc a.many)) := by
    rw [hL, linkB, show p ++ (encT a.last.data.toList ++ (a.id.data.toList ++ enc a.many) ++ r) = (p ++ encT a.last.data.toList ++ a.id.data.toList) ++ (enc a.many ++ r) by simp]
    exact gInt_pre _ _ _ (by unfold In64; omega)
  unfold gLink
  rw [h1]; dsimp only; rw [h2]; dsimp only; rw [h3]
  simp [linkB]
theorem gLink_got (L : List UInt8) (x : RR) (h : (gLink L x).2.bad = false) : x.bad = false ∧ ∀ bs, Stand L x bs → Stand L (gLink L x).2 (bs ++ linkB (gLink L x).1) := by
  obtain ⟨h1, h2⟩ := gInt_got L (gId L (gText L 64 x).2).2 h
  obtain ⟨h3, h4⟩ := gId_got L (gText L 64 x).2 h1
  obtain ⟨h5, h6⟩ := gText_got L 64 x h3
  refine ⟨h5, fun bs hbs => ?_⟩
  have := h2 _ (h4 _ (h6 bs hbs))
  rw [List.append_assoc, List.append_assoc] at this
  exact this
theorem gbranch_sound (L : List UInt8) (h : gokBranch L = true) : L = branchB (gbranchL L) (gBranch L).2 ∧ rightBranch (gbranchL L) (gBranch L).2 = true := by
  unfold gokBranch at h
  rw [Bool.and_eq_true] at h
  refine ⟨?_, h.2⟩
  have hb : (gBranch L).1.bad = false := by
    have := h.1; unfold gEnds at this
    simp only [Bool.and_eq_true, Bool.not_eq_true'] at this
    exact this.1
  obtain ⟨hb1, l, h2, h3, h4⟩ := gList_got L (gLink L) linkB (gLink_got L) _ _ [] hb
  obtain ⟨hb2, h5, h6, h7⟩ := gCount_got L 64 _ hb1
  obtain ⟨hb3, h8⟩ := gInt_got L _ hb2
  have h9 := h4 _ (h7 _ (h8 _ (begun_got hb3)))
  have hk : (gBranch L).2 = l := by simpa [gBranch] using h2
  have hn : (gCount L 64 (gInt L ⟨begunBad L 0x42, 1⟩).2).1 = (l.length : Int) := by omega
  refine (gEnds_got h.1 (fun _ => h9)).trans ?_
  rw [hk, hn]
  simp [branchB, gbranchL]
theorem gbranch_complete (level : Int) (kids : List Link) (h : rightBranch level kids = true) : gokBranch (branchB level kids) = true ∧ goutBranch (branchB level kids) = (level, kids) := by
  have h0 := h
  simp only [rightBranch, Bool.and_eq_true] at h
  obtain ⟨⟨⟨⟨h1, h2⟩, h3⟩, _⟩, h4⟩ := h
  simp only [inR, Bool.and_eq_true, decide_eq_true_eq] at h1 h2
  obtain ⟨L, hL⟩ : ∃ L, L = branchB level kids := ⟨_, rfl⟩
  have e0 : (⟨begunBad L 0x42, 1⟩ : RR) = gpre [0x42] := by rw [hL, branchB, begunBad_no]; rfl
  have e1 : gInt L (gpre [0x42]) = (level, gpre ([0x42] ++ enc level)) := by
    rw [hL]; exact gInt_pre [0x42] (enc (kids.length : Int) ++ kids.flatMap linkB) level (by unfold In64; omega)
  have e2 : gCount L 64 (gpre ([0x42] ++ enc level)) = ((kids.length : Int), gpre ([0x42] ++ enc level ++ enc (kids.length : Int))) := by
    rw [hL, show branchB level kids = ([0x42] ++ enc level) ++ (enc (kids.length : Int) ++ kids.flatMap linkB) by simp [branchB]]
    exact gCount_pre _ _ _ 64 (by unfold In64; omega) (by omega) (by omega)
  have e3 := gList_pre L (gLink L) linkB kids ([0x42] ++ enc level ++ enc (kids.length : Int)) [] [] (by rw [hL]; simp [branchB]) (fun a ha p r hp =>
    gLink_pre L a (List.all_eq_true.1 h3 a ha) p r hp)
  have e4 : [0x42] ++ enc level ++ enc (kids.length : Int) ++ kids.flatMap linkB = L := by rw [hL]; simp [branchB]
  rw [e4] at e3
  rw [← hL]
  have f1 : gbranchL L = level := by unfold gbranchL; rw [e0, e1]
  have f2 : gBranch L = (gpre L, kids) := by
    unfold gBranch
    rw [e0, e1]; dsimp only
    rw [e2]; dsimp only
    rw [Int.toNat_natCast, e3]; rfl
  have hok : gokBranch L = true := by
    unfold gokBranch
    rw [f1, f2]
    dsimp only
    rw [h0]
    simp [gEnds, gpre]
  exact ⟨hok, by unfold goutBranch; rw [if_pos hok, f1, f2]⟩
theorem branches_agree (L : List UInt8) : okBranch L = gokBranch L ∧ outBranch L = goutBranch L := by
  cases h : okBranch L with
  | true =>
    obtain ⟨h1, h2⟩ := branch_sound L h
    obtain ⟨h3, h4⟩ := branch_complete _ _ h2
    obtain ⟨h5, h6⟩ := gbranch_complete _ _ h2
    rw [← h1] at h4 h5 h6
    exact ⟨h5.symm, h4.trans h6.symm⟩
  | false =>
    cases h' : gokBranch L with
    | true =>
      obtain ⟨h1, h2⟩ := gbranch_sound L h'
      have h3 := (branch_complete _ _ h2).1
      rw [← h1, h] at h3; cases h3
    | false => exact ⟨rfl, by unfold outBranch goutBranch; rw [h, h', if_neg (by decide), if_neg (by decide)]⟩
end Obj
end Go.Proofs.YtpoljpjcmigobaaDoor
/- The walks of the reference's SameLeaf, SameBranch, of two that are the same. -/
namespace Go.Proofs.YtpoljpjcmigobaaDoor
set_option linter.unusedVariables false
set_option linter.unusedSimpArgs false
open Go.RowKit K Wire
namespace Obj

set_option maxRecDepth 100000 in
set_option maxHeartbeats 2000000 in
theorem sameLeaf_calls (A A' : Option Addr) (c c' : Nat) (kids : List Pair) (w : World) (hA : Cells w A (kids.flatMap kc)) (hA' : Cells w A' (kids.flatMap kc)) (hc : kids.length ≤ 100000000) :
    Calls Tryd.prog 18 #[.slice A kids.length c, .slice A' kids.length c'] w fun e w' => e = .returned (.bool true) ∧ Mod (fun _ => False) w w' := by
  have HA := Lib.hid hA
  have HA' := Lib.hid hA'
  clear hA hA'
  go_enter Tryd.func18, Tryd.ntmps18
  go_wp2_with fail
  go_loopw [5] (fun i wr => ∃ (k : Nat), i = .int .i64 k ∧ k ≤ kids.length ∧ Hid (Mod (fun _ => False) w wr)) (fun i _ => kids.length - (intOf i).toNat)
  case atStart => exact ⟨0, by go_num, by omega, Lib.hid (Mod.refl _ _)⟩
  case round =>
    obtain ⟨k, rfl, hk, HM⟩ := hrel
    by_cases hlt : k < kids.length
    · have i1 : (k : Int) < (kids.length : Int) := by omega
      have i0 : (0 : Int) ≤ (k : Int) := by omega
      rcases HA.out.keep HM.out (fun _ _ h => h) with h | ⟨ba, o, rfl, hcell⟩
      · have := flat_len kc_len kids; rw [h] at this; simp at this; omega
      rcases HA'.out.keep HM.out (fun _ _ h => h) with h | ⟨ba', o', rfl, hcell'⟩
      · have := flat_len kc_len kids; rw [h] at this; simp at this; omega
      have a0 := hcell _ _ (flat_get kc_len kids k 0 hlt (by omega))
      have a1 := hcell _ _ (flat_get kc_len kids k 1 hlt (by omega))
      have b0 := hcell' _ _ (flat_get kc_len kids k 0 hlt (by omega))
      have b1 := hcell' _ _ (flat_get kc_len kids k 1 hlt (by omega))
      rw [Nat.add_zero] at a0 b0
      rw [← Nat.add_assoc] at a1 b1
      generalize kids[k] = p at *
      clear hcell hcell'
      go_wp2_with fail
      go_quiet (fail)
      go_wp2_with fail
      go_roundw
      case rel => exact ⟨k + 1, by go_num, by omega, Lib.hid (HM.out.drewN _)⟩
      case measure => simp [intOf]; omega
    · have i1 : ¬ (k : Int) < (kids.length : Int) := by omega
      go_wp2_with fail
      go_ret
      exact ⟨rfl, HM.out⟩
end Obj
end Go.Proofs.YtpoljpjcmigobaaDoor
