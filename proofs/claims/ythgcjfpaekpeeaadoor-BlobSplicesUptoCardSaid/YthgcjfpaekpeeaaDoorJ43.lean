/- Joined texts: BlobBuildsL. -/
import Derived.Test.YthgcjfpaekpeeaaDoorJ42
/- The walk of the law BlobBuilds. -/
namespace Go.Proofs.YthgcjfpaekpeeaaDoor
set_option linter.unusedVariables false
set_option linter.unusedSimpArgs false
open Go.RowKit K Wire Go.Maps
namespace Blob
open Go.Proofs.YthgcjfpaekpeeaaDoor.Obj

theorem buildL_len (data : List UInt8) (h : data.length ≤ 262144) : (buildL data).2.length ≤ 100000000 := by
  have hl : ∀ (n : Nat) (lv : Int) (l : List Part), (levelsL n lv l).2.length ≤ 2 * l.length := by
    intro n
    induction n with
    | zero => intro lv l; simp [levelsL]
    | succ n ih =>
      intro lv l
      unfold levelsL
      split
      · simp
      · have h1 := ih (lv + 1) ((gr [] l).map (fanPart lv))
        have h2 := gr_many l []
        simp only [List.length_append, List.length_map, List.length_nil] at h1 h2 ⊢
        omega
  have h1 := keptL_len ((pieces data 0 (cutsL data)).map chunkOb ++ (levelsL 20 1 ((pieces data 0 (cutsL data)).map chunkPart)).2)
  have h2 := hl 20 1 ((pieces data 0 (cutsL data)).map chunkPart)
  have h3 := Gear.cuts_len data 0 0 0 (by omega)
  have h4 : (cutsL data).length ≤ data.length + 1 := by unfold cutsL; split; simp; omega
  simp only [List.length_append, List.length_map, pieces_len] at h1 h2
  unfold buildL
  simp only
  omega
theorem buildR_len (data : List UInt8) : (buildR data).2.1.length ≤ 100000000 := by
  unfold buildR
  split
  · exact buildL_len data (by assumption)
  · simp
set_option maxRecDepth 100000 in
set_option maxHeartbeats 4000000 in
theorem blobBuilds_calls (data : ByteArray) (w : World) (hK : Hash.Keys w) (hd : data.size ≤ 1048576) :
    Calls Tryd.prog 3 #[.string data] w fun e w' => e = .returned (.bool true) ∧ Below w.heap.size w w' := by
  have hcs := cutD_size data
  have hlen := buildR_len (cutD data).data.toList
  have hp := fun w1 (h : Hash.Keys w1) => build_calls (cutD data) w1 h (by omega)
  have hr := fun w1 => rBuild_calls (cutD data) w1 (by omega)
  have HCUT := Lib.hid (fun w1 => cut_calls data w1 (by omega))
  unfold BuildPost at hp hr
  have HK := Lib.hid hK
  generalize cutD data = D at *
  generalize buildR D.data.toList = R at *
  obtain ⟨⟨ID, SZ⟩, OB, ER⟩ := R
  dsimp only at hp hr hlen
  have HP := Lib.hid hp
  have HR := Lib.hid hr
  clear hK hcs hp hr
  go_enter Tryd.func3, Tryd.ntmps3
  go_wp2_with fail
  refine (shown_calls _ HK.out).mono ?_
  rintro e w1 ⟨rfl, hm1⟩
  have HM1 := Lib.hid hm1
  clear hm1
  go_wp2_with fail
  refine (HCUT.out _).mono ?_
  rintro e w' ⟨rfl, hw⟩
  subst hw
  go_wp2_with fail
  refine (HP.out _ (HK.out.keep HM1.out (fun h => h))).mono ?_
  rintro e w2 ⟨v2, rfl, ho2, hm2⟩
  obtain ⟨A2, c2, rfl, _, hcl2, _, _⟩ := own_cells ho2
  have hb2 := Has.new w2 [.string ID, .int .i64 SZ] 25
  have HB2 := Lib.hid hb2
  have HC2 := Lib.hid (hcl2.alloc (.cells #[.string ID, .int .i64 SZ] 25))
  have HM2 := Lib.hid ((Mod.trans HM1.out hm2 (fun _ _ h => h)).alloc (.cells #[.string ID, .int .i64 SZ] 25))
  clear hm2 ho2 hcl2 hb2
  go_wp2_with fail
  refine (HR.out _).mono ?_
  rintro e w3 ⟨v3, rfl, ho3, hm3⟩
  obtain ⟨A3, c3, rfl, _, hcl3, _, _⟩ := own_cells ho3
  have hb3 := (HB2.out.keep hm3 (fun h => h)).alloc (.cells #[.string ID, .int .i64 SZ] 25)
  have hb4 := Has.new w3 [.string ID, .int .i64 SZ] 25
  have HM3 := Lib.hid ((Mod.trans HM2.out hm3 (fun _ _ h => h)).alloc (.cells #[.string ID, .int .i64 SZ] 25))
  have HS := Lib.hid (sameObs_calls A2 A3 c2 c3 OB (w3.alloc (.cells #[.string ID, .int .i64 SZ] 25)) ((HC2.out.keep hm3 (fun _ _ h => h)).alloc _) (hcl3.alloc _) hlen)
  have x0 := hb3.cell (o := 0) rfl
  have x1 := hb3.cell (o := 1) rfl
  have y0 := hb4.cell (o := 0) rfl
  have y1 := hb4.cell (o := 1) rfl
  clear hm3 ho3 hcl3 hb3 hb4
  go_wp2_with fail
  refine HS.out.mono ?_
  rintro e w4 ⟨rfl, hm4⟩
  have HM4 := Lib.hid (Mod.trans HM3.out hm4 (fun _ _ h => h))
  clear hm4
  go_wp2_with fail
  go_ret
  exact ⟨rfl, HM4.out.below (fun _ _ h => h)⟩
end Blob
end Go.Proofs.YthgcjfpaekpeeaaDoor
