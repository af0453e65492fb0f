/- Joined texts: BlobP. -/
import Derived.Test.YthgcjfpaekpeeaaDoorJ32
/- The walk of the reference's Build. -/
namespace Go.Proofs.YthgcjfpaekpeeaaDoor
set_option linter.unusedVariables false
set_option linter.unusedSimpArgs false
open Go.RowKit K Wire Go.Maps
namespace Blob
open Go.Proofs.YthgcjfpaekpeeaaDoor.Obj

/-- what holds behind k pieces -/
structure RuIs (data : ByteArray) (w : World) (Ac : Option Addr) (cs : List Int) (k : Nat) (a : Int) (P O : Value) (wr : World) : Prop where
  ex : ∃ (done : List (List UInt8)), done.length = k ∧ pieces data.data.toList 0 cs = done ++ pieces data.data.toList a (cs.drop k) ∧
    wr.ownsRow (w.heap.size + 1) 25 2 P k ((done.map chunkPart).flatMap pc) ∧ wr.ownsRow (w.heap.size + 1) 60 2 O k ((done.map chunkOb).flatMap oc)
  good : Good 0 a data.size (cs.drop k)
  pos : 0 ≤ a
  cells : Cells wr Ac (cs.map (.int .i64))
  row : ∀ ad, Ac = some ad → ∃ cur fr, wr.heap[ad.block]? = some (.cells cur 3 fr)
  box : Has wr w.heap.size [.string ⟨#[]⟩, .int .i64 0] 25
  mod : Mod (fun _ => False) w wr
structure RvIs (w : World) (o0 : List Ob) (l0 : List Part) (i : Nat) (lv : Int) (A : Option Addr) (c : Nat) (r : List Part) (O : Value) (wr : World) : Prop where
  ex : ∃ (obs : List Ob), wr.ownsRow (w.heap.size + 1) 60 2 O obs.length (obs.flatMap oc) ∧ obs.length + 2 * r.length ≤ 900000 ∧
    obs ++ (levelsL (20 - i) lv r).2 = o0 ++ (levelsL 20 1 l0).2 ∧ (levelsL (20 - i) lv r).1 = (levelsL 20 1 l0).1
  own : wr.ownsRow (w.heap.size + 1) 25 2 (.slice A r.length c) r.length (r.flatMap pc)
  ok : 1 < r.length → PartsOk r
  pow : r.length ≤ 2 ^ (20 - i)
  one : 1 ≤ r.length
  lev : lv = (i : Int) + 1
  box : Has wr w.heap.size [.string ⟨#[]⟩, .int .i64 0] 25
  mod : Mod (fun _ => False) w wr
set_option maxRecDepth 100000 in
set_option maxHeartbeats 8000000 in
theorem rBuild_short (data : ByteArray) (w : World) (hd : data.size ≤ 262144) :
    Calls Tryd.prog 10 #[.string data] w (BuildPost data.data.toList w) := by
  have hlen : data.data.toList.length = data.size := by simp
  have hbR : buildR data.data.toList = ((buildL data.data.toList).1, (buildL data.data.toList).2, 0) := by unfold buildR; rw [if_pos (by omega)]
  unfold BuildPost
  rw [hbR]
  have hcut := fun w' => Gear.refCuts_calls data w' (by omega)
  unfold Gear.IntsPost at hcut
  have hg := cutsL_good data.data.toList
  have hcl := Gear.cuts_len data.data.toList 0 0 0 (by omega)
  have hcL : cutsL data.data.toList = if (Gear.cuts data.data.toList 0 0 0).isEmpty then [0] else Gear.cuts data.data.toList 0 0 0 := rfl
  obtain ⟨cs, hcs⟩ : ∃ cs, cutsL data.data.toList = cs := ⟨_, rfl⟩
  rw [hlen, hcs] at hg
  rw [hcs] at hcL
  rw [hlen] at hcl
  have hbL : buildL data.data.toList = ((levelsL 20 1 ((pieces data.data.toList 0 cs).map chunkPart)).1.headD ⟨⟨#[]⟩, 0⟩, keptL ((pieces data.data.toList 0 cs).map chunkOb ++ (levelsL 20 1 ((pieces data.data.toList 0 cs).map chunkPart)).2)) := by
    unfold buildL; rw [hcs]
  have hfo := fun h => first_ok (data := data.data.toList) (by omega) h
  rw [hcs] at hfo
  generalize Gear.cuts data.data.toList 0 0 0 = gc at *
  generalize buildL data.data.toList = BL at *
  have HCUT := Lib.hid hcut
  have HBL := Lib.hid hbL
  have HG := Lib.hid hg
  have HFO := Lib.hid hfo
  have HCL := Lib.hid hcL
  have i1 : ¬ (262144 : Int) < (data.size : Int) := by omega
  clear hcut hbL hg hfo hbR hcs hcL hlen
  go_enter Tryd.func10, Tryd.ntmps10
  go_wp2_with fail
  refine (HCUT.out _).mono ?_
  rintro e w2 ⟨v, rfl, ho, hm⟩
  have hM1 := (Mod.refl (fun _ => False) w).alloc (.cells #[.string ⟨#[]⟩, .int .i64 0] 25)
  have hb2 := (Has.new w [.string ⟨#[]⟩, .int .i64 0] 25).keep hm (fun h => h)
  have hM2 := Mod.trans hM1 hm (fun _ _ h => h)
  obtain ⟨Ac, cc, rfl, _, hcl2, _, _⟩ := own_cells ho
  have hrow2 : ∀ ad, Ac = some ad → 0 < gc.length → ∃ cur fr, w2.heap[ad.block]? = some (.cells cur 3 fr) := fun ad ha hp => by
    subst ha
    obtain ⟨g, cap, cs', hv, _, _, hh, _⟩ := own_has ho hp
    injection hv with hv
    injection hv with hv
    subst hv
    exact ⟨_, _, hh⟩
  by_cases hz0 : gc.length = 0
  · obtain rfl : gc = [] := List.eq_nil_of_length_eq_zero hz0
    clear hz0
    have hcs0 : cs = [0] := HCL.out
    have HB0 : Hid (RuIs data w (some ⟨w2.heap.size, 0, none⟩) cs 0 0 (.slice none 0 0) (.slice none 0 0) (w2.alloc (.cells #[.int .i64 0] 3))) := Lib.hid ⟨⟨[], rfl, rfl, World.ownsRow_nil _ _ _ _, World.ownsRow_nil _ _ _ _⟩,
      HG.out.1, by omega, by rw [hcs0]; exact cells_lit rfl, fun ad ha => by injection ha with ha; rw [← ha]; exact ⟨_, _, Has.new w2 [.int .i64 0] 3⟩, hb2.alloc _, hM2.alloc _⟩
    have hcb : cs.length ≤ 300000 := by rw [hcs0]; simp
    have hce : (cs.length : Int) = 1 := by rw [hcs0]; rfl
    have HCE := Lib.hid hce
    clear hce
    clear hM1 hb2 hM2 hcl2 hrow2 ho hm hcs0
    go_wp2_with fail
    go_loopw [6, 7, 8, 9] (fun P O av i wr => ∃ (k : Nat) (a : Int), i = .int .i64 k ∧ av = .int .i64 a ∧ k ≤ cs.length ∧ Hid (RuIs data w (some ⟨w2.heap.size, 0, none⟩) cs k a P O wr)) (fun _ _ _ i _ => cs.length - (intOf i).toNat)
    case atStart => exact ⟨0, 0, by go_num, rfl, by omega, HB0⟩
    case round =>
      obtain ⟨k, a, rfl, rfl, hk, HX⟩ := hrel
      by_cases hlt : k < cs.length
      · have i2 : (k : Int) < (cs.length : Int) := by omega
        have i3 : (0 : Int) ≤ (k : Int) := by omega
        have i4 : (k : Int) < (1 : Int) := by have := HCE.out; omega
        have hL : data.data.toList.length = data.size := by simp
        obtain ⟨done, hdl, hpe, hown, hobs⟩ := HX.out.ex
        have hgd := HX.out.good
        have ha0 := HX.out.pos
        rw [List.drop_eq_getElem_cons hlt] at hgd hpe
        obtain ⟨g1, g2, g3, g4⟩ := hgd
        simp only [pieces] at hpe
        have x0 : wr.cell? ⟨w2.heap.size, 0 + k, none⟩ = some (.int .i64 cs[k]) := by
          rcases HX.out.cells with h | ⟨b, o, hb, hc⟩
          · have : cs = [] := by simpa using h
            subst this; simp at hlt
          · injection hb with hb
            injection hb with hb1 hb2
            rw [hb1, hb2]
            exact hc k _ (by simp [hlt])
        obtain ⟨c, hc⟩ : ∃ c, cs[k] = c := ⟨_, rfl⟩
        rw [hc] at g1 g2 g3 g4 hpe x0
        have hab : w2.heap.size < wr.heap.size := World.block_lt_of_cell? _ _ x0
        have X0 := Lib.hid x0
        try simp only [Nat.zero_add] at x0
        have hpl := some_len (l := data.data.toList) (a := a) (c := c) ha0 (by omega) (by rw [hL]; exact g3)
        have hsl := run_some data a c ha0 (by omega) g3
        have hwr : IntKind.i64.wrap (c - a) = c - a := by rw [IntKind.wrap_i64]; omega
        obtain ⟨PC, hPC⟩ : ∃ PC, some_ data.data.toList a c = PC := ⟨_, rfl⟩
        rw [hPC] at hpl hpe hsl
        have hsz : (⟨PC.toArray⟩ : ByteArray).size = PC.length := by simp [ByteArray.size]
        have hch := fun w1 => rChunk_calls ⟨PC.toArray⟩ w1 (by omega)
        have hdec : decide ((⟨PC.toArray⟩ : ByteArray).size ≤ 1024) = true := decide_eq_true (by omega)
        simp only [hdec, Bool.not_true, putV_f, show (⟨PC.toArray⟩ : ByteArray).data.toList = PC from rfl] at hch
        have hco : chunkOb PC = ⟨⟨(Hash.sha (chunkB PC)).toArray⟩, ⟨(chunkB PC).toArray⟩⟩ := rfl
        have hid := sha_size (chunkB PC)
        unfold shaS at hid
        have hcp : chunkPart PC = ⟨(chunkOb PC).id, c - a⟩ := by unfold chunkPart; rw [hpl]
        rw [hco] at hcp
        obtain ⟨ID, hID⟩ : ∃ ID : ByteArray, (⟨(Hash.sha (chunkB PC)).toArray⟩ : ByteArray) = ID := ⟨_, rfl⟩
        obtain ⟨BY, hBY⟩ : ∃ BY : ByteArray, (⟨(chunkB PC).toArray⟩ : ByteArray) = BY := ⟨_, rfl⟩
        simp only [hID, hBY] at hch hco hid hcp
        have HCH := Lib.hid hch
        have HPE := Lib.hid hpe
        have HOWN := Lib.hid hown
        have HOBS := Lib.hid hobs
        have HCO := Lib.hid hco
        have HCP := Lib.hid hcp
        have HG4 := Lib.hid g4
        clear hch hpe hown hobs hco hcp g4 hc hPC hID hBY hdec hL
        go_wp2_with fail
        refine (HCH.out _).mono ?_
        rintro e w3 ⟨rfl, hm3⟩
        have hM4 := hm3.alloc (.cells #[.string ID, .string BY] 60)
        have hb4 := Has.new w3 [.string ID, .string BY] 60
        have hown4 := own_keep HOWN.out hM4 (fun _ _ _ h => h)
        have hobs4 := own_keep HOBS.out hM4 (fun _ _ _ h => h)
        have hcl4 := HX.out.cells.keep hM4 (fun _ _ h => h)
        have hrow4 := fun ad ha => row_keep (HX.out.row ad ha) hM4 (fun h => h)
        have hbx4 := HX.out.box.keep hM4 (fun h => h)
        have HM4 := Lib.hid (Mod.trans HX.out.mod hM4 (fun _ _ h => h))
        have x4 := (hM4.cell (p := ⟨w2.heap.size, 0 + k, none⟩) hab (fun h => h)).trans X0.out
        have HZ4 := Lib.hid hM4.size
        have hbw : w.heap.size + 1 ≤ w3.heap.size + 1 := by have := hbx4.lt; simp at this; omega
        have y0 := hb4.cell (o := 0) rfl
        have y1 := hb4.cell (o := 1) rfl
        have hub : ∀ g, u6.ownBlock = some g → w.heap.size + 1 ≤ g := fun g h => (HOWN.out.lt g h).1
        have hnb : ¬ (u6.ownBlock = some w3.heap.size ∨ w3.heap.size + 1 ≤ w3.heap.size) := by
          rintro (h | h)
          · exact absurd rfl (has_ne hb4 (own_row hown4 h) (by decide))
          · omega
        have hni : ¬ (u6.ownBlock = some w2.heap.size ∨ w3.heap.size + 1 ≤ w2.heap.size) := by
          rintro (h | h)
          · obtain ⟨cur, fr, h1⟩ := hrow4 ⟨w2.heap.size, 0, none⟩ rfl
            obtain ⟨cur', fr', h2⟩ := own_row hown4 h
            rw [h1] at h2
            injection h2 with h2
            injection h2 with _ h2
            exact absurd h2 (by decide)
          · have := World.block_lt_of_cell? _ _ x4; simp at this; omega
        have fv0 := fun (w' : World) (mm : Mod (fun g => u6.ownBlock = some g ∨ w3.heap.size + 1 ≤ g) (w3.alloc (.cells #[.string ID, .string BY] 60)).drew w') => (mm.cell (p := ⟨w3.heap.size, 0, none⟩) hb4.lt hnb).trans y0
        have fv1 := fun (w' : World) (mm : Mod (fun g => u6.ownBlock = some g ∨ w3.heap.size + 1 ≤ g) (w3.alloc (.cells #[.string ID, .string BY] 60)).drew w') => (mm.cell (p := ⟨w2.heap.size, 0 + k, none⟩) (World.block_lt_of_cell? _ _ x4) hni).trans x4
        have X4 := Lib.hid x4
        try simp only [Nat.zero_add] at fv1
        try simp only [Nat.zero_add] at x4
        have HB4 := Lib.hid hb4
        have HOWN4 := Lib.hid hown4
        have HOBS4 := Lib.hid hobs4
        have HCL4 := Lib.hid hcl4
        have HROW4 := Lib.hid hrow4
        have HBX4 := Lib.hid hbx4
        have HNI := Lib.hid hni
        have HNB := Lib.hid hnb
        have HUB := Lib.hid hub
        clear hm3 hM4 hb4 hown4 hobs4 hcl4 hrow4 hbx4 hnb hni hub HCH HOWN HOBS
        go_wp2_with fail
        refine region_mT (fun g => u6.ownBlock = some g ∨ w3.heap.size + 1 ≤ g) (by kernel_rfl) ?_
        simp only [List.length_cons, List.length_nil, List.replicate]
        refine take0T (v := ?v1) (oi := ?o1) 0 ?hi1 (by kernel_rfl) (by kernel_rfl) (by kernel_rfl) ?hq1 ?hy1 ?_
        case hi1 => (simp only [List.getElem?_toArray, List.getElem?_cons_zero, List.getElem?_cons_succ]; rfl)
        case hq1 => exact fun _ _ _ h => h
        case hy1 => first | (refine ry_notS ?_; rfl) | (refine ry_runS (by rfl) (fun w' hw' => ?_); go_simp; try rfl)
        simp only [Act.put, List.setIfInBounds_toArray, List.set_cons_zero, List.set_cons_succ]
        refine take0T (v := ?v2) (oi := ?o2) 1 ?hi2 (by kernel_rfl) (by kernel_rfl) (by kernel_rfl) ?hq2 ?hy2 ?_
        case hi2 => (simp only [List.getElem?_toArray, List.getElem?_cons_zero, List.getElem?_cons_succ]; rfl)
        case hq2 => exact fun _ _ _ h => h
        case hy2 => first | (refine ry_notS ?_; rfl) | (refine ry_runS (by rfl) (fun w' hw' => ?_); go_simp; try rfl)
        simp only [Act.put, List.setIfInBounds_toArray, List.set_cons_zero, List.set_cons_succ]
        refine take0T (v := ?v3) (oi := ?o3) 2 ?hi3 (by kernel_rfl) (by kernel_rfl) (by kernel_rfl) ?hq3 ?hy3 ?_
        case hi3 => (simp only [List.getElem?_toArray, List.getElem?_cons_zero, List.getElem?_cons_succ]; rfl)
        case hq3 => exact fun _ _ _ h => h
        case hy3 => first | (refine ry_notS ?_; rfl) | (refine ry_runS (by rfl) (fun w' hw' => ?_); go_simp; try rfl)
        simp only [Act.put, List.setIfInBounds_toArray, List.set_cons_zero, List.set_cons_succ]
        refine take0T (v := ?v4) (oi := ?o4) 3 ?hi4 (by kernel_rfl) (by kernel_rfl) (by kernel_rfl) ?hq4 ?hy4 ?_
        case hi4 => (simp only [List.getElem?_toArray, List.getElem?_cons_zero, List.getElem?_cons_succ]; rfl)
        case hq4 => exact fun _ _ _ h => h
        case hy4 => first | (refine ry_notS ?_; rfl) | (refine ry_runS (by rfl) (fun w' hw' => ?_); go_simp; try rfl)
        simp only [Act.put, List.setIfInBounds_toArray, List.set_cons_zero, List.set_cons_succ]
        refine take0T (v := ?v5) (oi := ?o5) 4 ?hi5 (by kernel_rfl) (by kernel_rfl) (by kernel_rfl) ?hq5 ?hy5 ?_
        case hi5 => (simp only [List.getElem?_toArray, List.getElem?_cons_zero, List.getElem?_cons_succ]; rfl)
        case hq5 => exact fun _ _ _ h => h
        case hy5 => first | (refine ry_notS ?_; rfl) | (refine ry_runS (by rfl) (fun w' hw' => ?_); go_simp; try rfl)
        simp only [Act.put, List.setIfInBounds_toArray, List.set_cons_zero, List.set_cons_succ]
        refine take0T (v := ?v6) (oi := ?o6) 5 ?hi6 (by kernel_rfl) (by kernel_rfl) (by kernel_rfl) ?hq6 ?hy6 ?_
        case hi6 => (simp only [List.getElem?_toArray, List.getElem?_cons_zero, List.getElem?_cons_succ]; rfl)
        case hq6 => exact fun _ _ _ h => h
        case hy6 => first | (refine ry_notS ?_; rfl) | (refine ry_runS (by rfl) (fun w' hw' => ?_); go_simp; try rfl)
        simp only [Act.put, List.setIfInBounds_toArray, List.set_cons_zero, List.set_cons_succ]
        refine take0T (v := ?v7) (oi := ?o7) 6 ?hi7 (by kernel_rfl) (by kernel_rfl) (by kernel_rfl) ?hq7 ?hy7 ?_
        case hi7 => (simp only [List.getElem?_toArray, List.getElem?_cons_zero, List.getElem?_cons_succ]; rfl)
        case hq7 => exact fun _ _ _ h => h
        case hy7 => first | (refine ry_notS ?_; rfl) | (refine ry_runS (by rfl) (fun w' hw' => ?_); go_simp; try rfl)
        simp only [Act.put, List.setIfInBounds_toArray, List.set_cons_zero, List.set_cons_succ]
        refine take0T (v := ?v8) (oi := ?o8) 7 ?hi8 (by kernel_rfl) (by kernel_rfl) (by kernel_rfl) ?hq8 ?hy8 ?_
        case hi8 => (simp only [List.getElem?_toArray, List.getElem?_cons_zero, List.getElem?_cons_succ]; rfl)
        case hq8 => exact fun _ _ _ h => h
        case hy8 => first | (refine ry_notS ?_; rfl) | (refine ry_runS (by rfl) (fun w' hw' => ?_); go_simp; try rfl)
        simp only [Act.put, List.setIfInBounds_toArray, List.set_cons_zero, List.set_cons_succ]
        refine take0T (v := ?v9) (oi := ?o9) 8 ?hi9 (by kernel_rfl) (by kernel_rfl) (by kernel_rfl) ?hq9 ?hy9 ?_
        case hi9 => (simp only [List.getElem?_toArray, List.getElem?_cons_zero, List.getElem?_cons_succ]; rfl)
        case hq9 => exact fun _ _ _ h => h
        case hy9 => first | (refine ry_notS ?_; rfl) | (refine ry_runS (by rfl) (fun w' hw' => ?_); go_simp; try rfl)
        simp only [Act.put, List.setIfInBounds_toArray, List.set_cons_zero, List.set_cons_succ]
        refine take0T (v := ?v10) (oi := ?o10) 9 ?hi10 (by kernel_rfl) (by kernel_rfl) (by kernel_rfl) ?hq10 ?hy10 ?_
        case hi10 => (simp only [List.getElem?_toArray, List.getElem?_cons_zero, List.getElem?_cons_succ]; rfl)
        case hq10 => exact fun _ _ _ h => h
        case hy10 => first | (refine ry_notS ?_; rfl) | (refine ry_runS (by rfl) (fun w' hw' => ?_); go_simp; try rfl)
        simp only [Act.put, List.setIfInBounds_toArray, List.set_cons_zero, List.set_cons_succ]
        refine step0T (o := ?o11) 10 (by kernel_rfl) ?hi11 ?hw11 ?_
        case hi11 => (simp only [List.getElem?_toArray, List.getElem?_cons_zero, List.getElem?_cons_succ]; rfl)
        case hw11 => rfl
        go_simp
        refine ⟨.inl (Mod.alloc (Mod.refl _ _) _), ?_⟩
        refine step0T (o := ?o12) 11 (by kernel_rfl) ?hi12 ?hw12 ?_
        case hi12 => (simp only [List.getElem?_toArray, List.getElem?_cons_zero, List.getElem?_cons_succ]; rfl)
        case hw12 => rfl
        refine appG_step (.tmp 42) (.tmp 52) part_t (w.heap.size + 1) u6 k ((done.map chunkPart).flatMap pc) ((own_keep HOWN4.out ((Mod.refl (fun _ => False) _).drew) (fun _ _ _ h => h)).alloc _) (some ⟨w3.heap.size + 1, 0, none⟩) 1 1 [.string ID, .int .i64 (c - a)] rfl rfl rfl rfl (cells_lit (by simp)) (by intro u hu; simp at hu; rcases hu with rfl | rfl <;> rfl) (by omega) (by unfold maxLen; omega) (by simp; omega) ?_
        intro v5 w5 ho5 hm5 hr5
        refine ⟨.inl (hm5.mono fun _ _ h => .inl h), ?_⟩
        have hM5 := Mod.trans (((Mod.refl (fun g => u6.ownBlock = some g) (w3.alloc (.cells #[.string ID, .string BY] 60))).drew).alloc (.cells #[.string ID, .int .i64 (c - a)] 25)) hm5 (fun _ _ h => h)
        simp only [Act.put, List.setIfInBounds_toArray, List.set_cons_zero, List.set_cons_succ]
        refine take0T (v := ?v13) (oi := ?o13) 12 ?hi13 (by kernel_rfl) (by kernel_rfl) (by kernel_rfl) ?hq13 ?hy13 ?_
        case hi13 => (simp only [List.getElem?_toArray, List.getElem?_cons_zero, List.getElem?_cons_succ]; rfl)
        case hq13 => exact fun _ _ _ h => h
        case hy13 => first | (refine ry_notS ?_; rfl) | (refine ry_runS (by rfl) (fun w' hw' => ?_); go_simp; try rfl)
        simp only [Act.put, List.setIfInBounds_toArray, List.set_cons_zero, List.set_cons_succ]
        refine wpAnyT_done (by kernel_rfl) ?_
        clear fv0 fv1
        have hb5 := HB4.out.keep hM5 (fun h => HNB.out (.inl h))
        have z0 := hb5.cell (o := 0) rfl
        have z1 := hb5.cell (o := 1) rfl
        have x5 := (hM5.cell (p := ⟨w2.heap.size, 0 + k, none⟩) (Nat.lt_of_lt_of_le hab HZ4.out) (fun h => HNI.out (.inl h))).trans X4.out
        have X5 := Lib.hid x5
        have hobs5 := own_keep HOBS4.out hM5 (fun g _ hg h => by
          obtain ⟨cur, fr, h1⟩ := own_row HOBS4.out hg
          obtain ⟨cur', fr', h2⟩ := own_row HOWN4.out h
          rw [h1] at h2; injection h2 with h2; injection h2 with _ h2; exact absurd h2 (by decide))
        have hcl5 := HCL4.out.keep hM5 (fun ad ha h => by injection ha with ha; subst ha; exact HNI.out (.inl h))
        have hrow5 := fun ad (ha : some (⟨w2.heap.size, 0, none⟩ : Addr) = some ad) => row_keep (HROW4.out ad ha) hM5 (fun h => by injection ha with ha; subst ha; exact HNI.out (.inl h))
        have hbx5 := HBX4.out.keep hM5 (fun h => by have := HUB.out _ h; omega)
        have hM5b := Mod.trans HM4.out hM5 (fun i hi h => by have := HUB.out _ h; omega)
        have HZ5 := Lib.hid (Nat.le_trans HZ4.out hM5.size)
        have hz5 := hM5.size
        rw [size_alloc] at hz5
        have HO5 := Lib.hid ho5
        have HOBS5 := Lib.hid hobs5
        have HCL5 := Lib.hid hcl5
        have HROW5 := Lib.hid hrow5
        have HBX5 := Lib.hid hbx5
        have HM5 := Lib.hid hM5b
        have hnew := cells_new w5 [.string ID, .string BY] 60
        try simp only [Nat.zero_add] at x5
        clear hb5 hobs5 hcl5 hrow5 hbx5 hM5 hM5b hm5 ho5 hr5 x0 x4 y0 y1 HNI HNB HUB
        go_wp2_with (first
          | (at_builtin
             go_must (refine app (.tmp 54) (.tmp 56) objs_t (w.heap.size + 1) u7 k ((done.map chunkOb).flatMap oc) (HOBS5.out.alloc _) ⟨w5.heap.size, 0, none⟩ 1 1 [.string ID, .string BY] rfl rfl rfl rfl rfl hnew (by intro u hu; simp at hu; rcases hu with rfl | rfl <;> rfl) (by omega) (by unfold maxLen; omega) (by simp; omega) ?_; intro v7 w7 ho7 hm7)
             have hM7 := Mod.trans ((Mod.refl (fun g => w.heap.size + 1 ≤ g ∧ u7.ownBlock = some g) w5).alloc (.cells #[.string ID, .string BY] 60)) hm7 (fun _ _ h => h)
             have hni7 : ¬ (w.heap.size + 1 ≤ w2.heap.size ∧ u7.ownBlock = some w2.heap.size) := fun h => by
               obtain ⟨cur, fr, h1⟩ := HROW5.out ⟨w2.heap.size, 0, none⟩ rfl
               obtain ⟨cur', fr', h2⟩ := own_row HOBS5.out h.2
               rw [h1] at h2
               injection h2 with h2
               injection h2 with _ h2
               exact absurd h2 (by decide)
             have x7 := (hM7.cell (p := ⟨w2.heap.size, 0 + k, none⟩) (Nat.lt_of_lt_of_le hab HZ5.out) hni7).trans X5.out
             have HO7 := Lib.hid ho7
             have HM7 := Lib.hid hM7
             have HNI7 := Lib.hid hni7
             try simp only [Nat.zero_add] at x7
             clear ho7 hm7 hM7 hni7))
        have hnx : RuIs data w (some ⟨w2.heap.size, 0, none⟩) cs (k + 1) c v5 v7 w7 := by
          refine ⟨⟨done ++ [PC], by simp [hdl], by rw [HPE.out]; simp, ?_, ?_⟩, HG4.out, by omega, HCL5.out.keep HM7.out (fun ad ha h => by injection ha with ha; subst ha; exact HNI7.out h), fun ad ha => row_keep (HROW5.out ad ha) HM7.out (fun h => by injection ha with ha; subst ha; exact HNI7.out h), HBX5.out.keep HM7.out (fun h => by have := h.1; omega), Mod.trans HM5.out HM7.out (fun i hi h => by have := h.1; omega)⟩
          · rw [List.map_append, List.flatMap_append]
            simp only [List.map_cons, List.map_nil, HCP.out]
            exact own_keep HO5.out HM7.out (fun g _ hg h => by
              obtain ⟨cur, fr, h1⟩ := own_row HO5.out hg
              obtain ⟨cur', fr', h2⟩ := own_row HOBS5.out h.2
              rw [h1] at h2; injection h2 with h2; injection h2 with _ h2; exact absurd h2 (by decide))
          · rw [List.map_append, List.flatMap_append]
            simp only [List.map_cons, List.map_nil, HCO.out]
            exact HO7.out
        have HNX := Lib.hid hnx
        clear hnx x5
        go_roundw
        case rel => exact ⟨k + 1, c, by go_num, rfl, by omega, HNX⟩
        case measure => simp [intOf]; omega
      · have hkl : k = cs.length := by omega
        have i4 : ¬ (k : Int) < (1 : Int) := by have := HCE.out; omega
        obtain ⟨done, hdl, hpe, hown, hobs⟩ := HX.out.ex
        rw [hkl, List.drop_length] at hpe
        simp only [pieces, List.append_nil] at hpe
        obtain ⟨A1, c1, he1, _, _, _, _⟩ := own_cells hown
        have hdn : done.length = (done.map chunkPart).length := by simp
        have hdo : done.length = (done.map chunkOb).length := by simp
        have hfo := HFO.out
        have hbl := HBL.out
        rw [hpe] at hfo hbl
        have hcs0 := HG.out.2.1
        have hpos : 1 ≤ cs.length := List.length_pos_iff.2 hcs0
        have hL0 : RvIs w (done.map chunkOb) (done.map chunkPart) 0 1 A1 c1 (done.map chunkPart) u7 wr := by
          refine ⟨⟨done.map chunkOb, by rw [← hdo, hdl]; exact hobs, by rw [← hdo, ← hdn]; omega, rfl, rfl⟩, ?_, fun h => hfo (by rw [← hdn, hdl] at h; omega), by rw [← hdn, show (2 : Nat) ^ (20 - 0) = 1048576 from rfl]; omega, by rw [← hdn]; omega, by simp, HX.out.box, HX.out.mod⟩
          rw [← hdn, hdl, ← he1]; exact hown
        have hst : u6 = .slice A1 (done.map chunkPart).length c1 := by rw [he1, ← hdn, hdl]
        have HL0 := Lib.hid hL0
        have HBLL := Lib.hid hbl
        obtain ⟨l0, hl0⟩ : ∃ l0, done.map chunkPart = l0 := ⟨_, rfl⟩
        obtain ⟨o0, ho0⟩ : ∃ o0, done.map chunkOb = o0 := ⟨_, rfl⟩
        rw [hl0] at hst HBLL
        rw [ho0] at HBLL
        simp only [hl0, ho0] at HL0
        subst hst
        clear he1 hL0 hbl hfo hpe hown hobs hdn hdo hdl hl0 ho0 hcs0
        go_wp2_with fail
        go_loopw [6, 7, 12] (fun s O v wr => ∃ (i : Nat) (lv : Int) (A' : Option Addr) (c' : Nat) (r : List Part), s = .slice A' r.length c' ∧ v = .int .i64 lv ∧ i ≤ 20 ∧ 1 ≤ lv ∧ lv ≤ 21 ∧ Hid (RvIs w o0 l0 i lv A' c' r O wr)) (fun _ _ v _ => 22 - (intOf v).toNat)
        case atStart => exact ⟨0, 1, A1, c1, l0, rfl, rfl, by omega, by omega, by omega, HL0⟩
        case round =>
          obtain ⟨i, lv, A', c', r, rfl, rfl, hi, hlv1, hlv2, HL⟩ := hrel
          by_cases hr1 : 1 < r.length
          · have j1 : (1 : Int) < (r.length : Int) := by omega
            obtain ⟨obs, hob, hnl, hf, hp⟩ := HL.out.ex
            have hpow := HL.out.pow
            have hi20 : i < 20 := by
              rcases Nat.lt_or_ge i 20 with h | h
              · exact h
              · have : i = 20 := by omega
                subst this
                simp at hpow; omega
            obtain ⟨m, hm⟩ : ∃ m, 20 - i = m + 1 := ⟨19 - i, by omega⟩
            rw [hm] at hf hp hpow
            have hlev := HL.out.lev
            obtain ⟨A2, c2, he, hcap, hcl, hadr, _⟩ := own_cells HL.out.own
            obtain ⟨rfl, rfl⟩ : A' = A2 ∧ c' = c2 := by simpa using he
            have Hw2.heap.size := Lib.hid (rAbove_calls lv A' c' r wr hcl ⟨by omega, by omega⟩ (HL.out.ok hr1) (by omega))
            have hgm := gr_many r []
            have hgp := gr_pos r [] (by intro e; rw [List.nil_append] at e; rw [e] at hr1; simp at hr1)
            have hnk := next_ok (level := lv) ⟨by omega, by omega⟩ (HL.out.ok hr1)
            have hbw : w.heap.size + 1 ≤ wr.heap.size := HL.out.box.lt
            have h2 : (2 : Nat) ^ (m + 1) = 2 * 2 ^ m := by rw [Nat.pow_succ, Nat.mul_comm]
            rw [h2] at hpow
            rw [List.length_nil] at hgm
            unfold levelsL at hf hp
            rw [if_neg (by omega)] at hf hp
            dsimp only at hf hp
            rw [← List.append_assoc] at hf
            have HF := Lib.hid hf
            have HPP := Lib.hid hp
            have HNK := Lib.hid hnk
            have HOB := Lib.hid hob
            have HNUM := Lib.hid (And.intro hpow (And.intro hgm (And.intro hgp (And.intro hnl (And.intro hm (And.intro hlev hbw))))))
            clear hf hp hnk hpow hgm hgp hm h2 hlev he hcap hcl hadr hob hnl hbw
            go_wp2_with fail
            refine Hw2.heap.size.out.mono ?_
            rintro e w3 ⟨P', O', rfl, hown', hobs', hm'⟩
            obtain ⟨A3, c3, rfl, _, _, _, _⟩ := own_cells hown'
            obtain ⟨A4, c4, rfl, _, hcl4, _, _⟩ := own_cells hobs'
            have hOB3 := own_keep HOB.out hm' (fun _ _ _ h => h)
            have HOWN3 := Lib.hid hown'
            have HOB3 := Lib.hid hOB3
            have HC4 := Lib.hid hcl4
            have HM3 := Lib.hid hm'
            have HBX3 := Lib.hid (HL.out.box.keep hm' (fun h => h))
            have hgl : (gr [] r).length = ((gr [] r).map (fanOb lv)).length := (List.length_map _).symm
            have hz3 : w.heap.size + 1 ≤ w3.heap.size := by obtain ⟨_, _, _, _, _, _, hbw⟩ := HNUM.out; have := hm'.size; omega
            have hbd : obs.length + (gr [] r).length ≤ 900000 := by obtain ⟨hpow, hgm, hgp, hnl, hm, hlev, hbw⟩ := HNUM.out; omega
            obtain ⟨G, hG⟩ : ∃ G, (gr [] r).length = G := ⟨_, rfl⟩
            rw [hG] at hgl hbd
            have HGL := Lib.hid hgl
            have HG := Lib.hid hG
            simp only [hG]
            have HW3 : Hid (w3.ownsRow wr.heap.size 25 2 (.slice A3 G c3) G (((gr [] r).map (fanPart lv)).flatMap pc)) := Lib.hid (by have := HOWN3.out; rw [hG] at this; exact this)
            clear hown' hobs' hm' hOB3 hcl4 hgl hG HOWN3
            go_wp2_with (first
              | (at_builtin
                 go_must (refine appG (.tmp 72) (.tmp 73) objs_t (w.heap.size + 1) u7 obs.length (obs.flatMap oc) HOB3.out A4 G c4 (((gr [] r).map (fanOb lv)).flatMap oc) rfl rfl rfl rfl (by rw [flat_len oc_len, HGL.out]) HC4.out (by intro u hu; simp only [List.mem_flatMap, oc, List.mem_cons, List.not_mem_nil, or_false] at hu; obtain ⟨x, _, rfl | rfl⟩ := hu <;> rfl) (by omega) (by unfold maxLen; omega) hz3 ?_; intro v5 w5 ho5 hm5 _)
                 have HO5 := Lib.hid ho5
                 have HM5 := Lib.hid hm5
                 clear ho5 hm5))
            have hnx : RvIs w o0 l0 (i + 1) (lv + 1) A3 c3 ((gr [] r).map (fanPart lv)) v5 w5 := by
              obtain ⟨hpow, hgm, hgp, hnl, hm, hlev, hbw⟩ := HNUM.out
              have hm2 : 20 - (i + 1) = m := by omega
              have hG := HG.out
              have hub : ∀ g, u7.ownBlock = some g → w.heap.size + 1 ≤ g := fun g h => (HOB3.out.lt g h).1
              refine ⟨⟨obs ++ (gr [] r).map (fanOb lv), ?_, by simp only [List.length_append, List.length_map]; omega, by rw [hm2]; exact HF.out, by rw [hm2]; exact HPP.out⟩, ?_, fun _ => HNK.out, by rw [List.length_map, hm2]; omega, by rw [List.length_map]; exact hgp, by rw [hlev]; omega,
                HBX3.out.keep HM5.out (fun h => by have := hub _ h; omega), Mod.trans (Mod.trans HL.out.mod HM3.out (fun _ _ h => h)) HM5.out (fun i hi h => by have := hub _ h; omega)⟩
              · rw [List.flatMap_append, List.length_append, ← HGL.out]; exact HO5.out
              · rw [List.length_map, hG]
                exact own_base (own_keep HW3.out HM5.out (fun g _ hg h => by
                  obtain ⟨cur, fr, h1⟩ := own_row HW3.out hg
                  obtain ⟨cur', fr', h2⟩ := own_row HOB3.out h
                  rw [h1] at h2; injection h2 with h2; injection h2 with _ h2; exact absurd h2 (by decide))) hbw
            have HNX := Lib.hid hnx
            have hgl2 : ((gr [] r).map (fanPart lv)).length = G := by rw [List.length_map]; exact HG.out
            have HGL2 := Lib.hid hgl2
            clear hnx hgl2
            go_roundw
            case rel => exact ⟨i + 1, lv + 1, A3, c3, _, by rw [HGL2.out], rfl, by omega, by omega, by have := HL.out.lev; omega, HNX⟩
            case measure => simp [intOf]; omega
          · have j1 : ¬ (1 : Int) < (r.length : Int) := by omega
            have hr : r.length = 1 := by have := HL.out.one; omega
            obtain ⟨obs, hob, hnl, hf, hp⟩ := HL.out.ex
            rw [levels_one (by omega)] at hf hp
            obtain ⟨p, rfl⟩ : ∃ p, r = [p] := by
              cases r with
              | nil => simp at hr
              | cons p r => cases r with
                | nil => exact ⟨p, rfl⟩
                | cons _ _ => simp at hr
            dsimp only [List.append_nil] at hf hp
            rw [List.append_nil] at hf
            have hblL := HBLL.out
            rw [← hp, ← hf] at hblL
            obtain ⟨A9, c9, rfl, _, hcl9, _, _⟩ := own_cells hob
            obtain ⟨A2, c2, he, _, hclr, _, _⟩ := own_cells HL.out.own
            obtain ⟨rfl, rfl⟩ : A' = A2 ∧ c' = c2 := by simpa using he
            rcases hclr with h | ⟨ba, bo, rfl, hcell⟩
            · cases h
            have y0 := hcell 0 (.string p.id) rfl
            have y1 := hcell 1 (.int .i64 p.size) rfl
            rw [Nat.add_zero] at y0
            have hbx := HL.out.box
            have HKT := Lib.hid (fun w1 (mm : Mod (fun _ => False) wr w1) => rKept_calls A9 c9 obs w1 (hcl9.keep mm (fun _ _ h => h)) (by omega))
            have hbl1 := World.block_lt_of_cell? wr _ y0
            have fv0 := fun (w' : World) (mm : Mod0 wr.drew w') => ((Mod.of_drew_l mm).cell (p := ⟨ba, bo, none⟩) hbl1 (fun h => h)).trans y0
            have fv1 := fun (w' : World) (mm : Mod0 wr.drew w') => ((Mod.of_drew_l mm).cell (p := ⟨ba, bo + 1, none⟩) hbl1 (fun h => h)).trans y1
            have HBX := Lib.hid hbx
            have HB9 := Lib.hid hblL
            clear hbx hcl9 hob hf hp hblL hcell he hr hnl
            go_wp2_with fail
            refine region_mT (fun _ => False) (by kernel_rfl) ?_
            simp only [List.length_cons, List.length_nil, List.replicate]
            refine take0T (v := ?v14) (oi := ?o14) 0 ?hi14 (by kernel_rfl) (by kernel_rfl) (by kernel_rfl) ?hq14 ?hy14 ?_
            case hi14 => (simp only [List.getElem?_toArray, List.getElem?_cons_zero, List.getElem?_cons_succ]; rfl)
            case hq14 => exact fun _ _ _ h => h
            case hy14 => first | (refine ry_notS ?_; rfl) | (refine ry_runS (by rfl) (fun w' hw' => ?_); go_simp; try rfl)
            simp only [Act.put, List.setIfInBounds_toArray, List.set_cons_zero, List.set_cons_succ]
            refine take0T (v := ?v15) (oi := ?o15) 1 ?hi15 (by kernel_rfl) (by kernel_rfl) (by kernel_rfl) ?hq15 ?hy15 ?_
            case hi15 => (simp only [List.getElem?_toArray, List.getElem?_cons_zero, List.getElem?_cons_succ]; rfl)
            case hq15 => exact fun _ _ _ h => h
            case hy15 => first | (refine ry_notS ?_; rfl) | (refine ry_runS (by rfl) (fun w' hw' => ?_); go_simp; try rfl)
            simp only [Act.put, List.setIfInBounds_toArray, List.set_cons_zero, List.set_cons_succ]
            refine take0T (v := ?v16) (oi := ?o16) 2 ?hi16 (by kernel_rfl) (by kernel_rfl) (by kernel_rfl) ?hq16 ?hy16 ?_
            case hi16 => (simp only [List.getElem?_toArray, List.getElem?_cons_zero, List.getElem?_cons_succ]; rfl)
            case hq16 => exact fun _ _ _ h => h
            case hy16 => first | (refine ry_notS ?_; rfl) | (refine ry_runS (by rfl) (fun w' hw' => ?_); go_simp; try rfl)
            simp only [Act.put, List.setIfInBounds_toArray, List.set_cons_zero, List.set_cons_succ]
            refine take0T (v := ?v17) (oi := ?o17) 3 ?hi17 (by kernel_rfl) (by kernel_rfl) (by kernel_rfl) ?hq17 ?hy17 ?_
            case hi17 => (simp only [List.getElem?_toArray, List.getElem?_cons_zero, List.getElem?_cons_succ]; rfl)
            case hq17 => exact fun _ _ _ h => h
            case hy17 => first | (refine ry_notS ?_; rfl) | (refine ry_runS (by rfl) (fun w' hw' => ?_); go_simp; try rfl)
            simp only [Act.put, List.setIfInBounds_toArray, List.set_cons_zero, List.set_cons_succ]
            refine step0T (o := ?o18) 4 (by kernel_rfl) ?hi18 ?hw18 ?_
            case hi18 => (simp only [List.getElem?_toArray, List.getElem?_cons_zero, List.getElem?_cons_succ]; rfl)
            case hw18 => rfl
            go_simp
            refine (HKT.out _ ((Mod.refl _ _).drew)).mono ?_
            rintro e w4 ⟨vk, rfl, hvk, hm4⟩
            refine ⟨.inl hm4, ?_⟩
            have hm4' := Mod.of_drew_l hm4
            have hbx4 := HBX.out.keep hm4' (fun h => h)
            have q0 := hbx4.cell (o := 0) rfl
            have q1 := hbx4.cell (o := 1) rfl
            have r0 := hbx4.frozen 0
            have r1 := hbx4.frozen 1
            refine step0T (o := ?o19) 5 (by kernel_rfl) ?hi19 ?hw19 ?_
            case hi19 => (simp only [List.getElem?_toArray, List.getElem?_cons_zero, List.getElem?_cons_succ]; rfl)
            case hw19 => rfl
            go_simp
            refine ⟨.inr (by kernel_rfl), ?_⟩
            refine take0T (v := ?v20) (oi := ?o20) 6 ?hi20 (by kernel_rfl) (by kernel_rfl) (by kernel_rfl) ?hq20 ?hy20 ?_
            case hi20 => (simp only [List.getElem?_toArray, List.getElem?_cons_zero, List.getElem?_cons_succ]; rfl)
            case hq20 => exact fun _ _ _ h => h
            case hy20 => first | (refine ry_notS ?_; rfl) | (refine ry_runS (by rfl) (fun w' hw' => ?_); go_simp; try rfl)
            simp only [Act.put, List.setIfInBounds_toArray, List.set_cons_zero, List.set_cons_succ]
            refine take0T (v := ?v21) (oi := ?o21) 7 ?hi21 (by kernel_rfl) (by kernel_rfl) (by kernel_rfl) ?hq21 ?hy21 ?_
            case hi21 => (simp only [List.getElem?_toArray, List.getElem?_cons_zero, List.getElem?_cons_succ]; rfl)
            case hq21 => exact fun _ _ _ h => h
            case hy21 => first | (refine ry_notS ?_; rfl) | (refine ry_runS (by rfl) (fun w' hw' => ?_); go_simp; try rfl)
            simp only [Act.put, List.setIfInBounds_toArray, List.set_cons_zero, List.set_cons_succ]
            refine wpAnyT_done (by kernel_rfl) ?_
            clear fv0 fv1 y0 y1
            have z0 := (hbx4.set 0 (.string p.id)).cell (o := 0) rfl
            have z1 := ((hbx4.set 0 (.string p.id)).set 1 (.int .i64 p.size)).cell (o := 1) rfl
            have z2 := ((hbx4.set 0 (.string p.id)).set 1 (.int .i64 p.size)).cell (o := 0) rfl
            have hmS : Mod (fun k => k = w.heap.size) w4 ((w4.setCell ⟨w.heap.size, 0, none⟩ (.string p.id)).setCell ⟨w.heap.size, 1, none⟩ (.int .i64 p.size)) := ((Mod.refl (fun k => k = w.heap.size) w4).setCell (p := ⟨w.heap.size, 0, none⟩) (.inl rfl) _).setCell (p := ⟨w.heap.size, 1, none⟩) (.inl rfl) _
            have hbr : w.heap.size + 1 ≤ wr.heap.size := HBX.out.lt
            have hown9 := own_base (own_keep hvk hmS (fun k hk _ h => by simp at hk; omega)) (Nat.le_trans (Nat.le_succ _) hbr)
            have hM9 := Mod.trans (Mod.trans HL.out.mod hm4' (fun _ _ h => h)) hmS (fun i hi h => by omega)
            have HO9 := Lib.hid hown9
            have HM9 := Lib.hid hM9
            clear hmS hM9 hown9 hvk hm4 hm4' hbx4
            go_wp2_with fail
            refine bodyPost_ret (v := .tuple #[.agg #[.string p.id, .int .i64 p.size], vk, .int .i64 0]) (by simp [results, Tryd.results10, go_sem, z0, z1, z2]) rfl ⟨_, by rw [HB9.out]; rfl, by rw [HB9.out]; exact HO9.out, HM9.out⟩
  · have hcs0 : cs = gc := by
      have := HCL.out
      rw [if_neg (by intro h; exact hz0 (by simpa using h))] at this
      exact this
    have b1 : ((gc.length : Int) == 0) = false := beq_eq_false_iff_ne.2 (by omega)
    have i5 : ¬ (gc.length : Int) = 0 := by omega
    obtain ⟨ba, bo, rfl⟩ : ∃ ba bo, Ac = some ⟨ba, bo, none⟩ := by
      rcases hcl2 with h | ⟨ba, bo, h, _⟩
      · exact absurd (by simpa using h) (fun h : gc = [] => hz0 (by rw [h]; rfl))
      · exact ⟨ba, bo, h⟩
    have HB0 : Hid (RuIs data w (some ⟨ba, bo, none⟩) cs 0 0 (.slice none 0 0) (.slice none 0 0) w2) := Lib.hid ⟨⟨[], rfl, rfl, World.ownsRow_nil _ _ _ _, World.ownsRow_nil _ _ _ _⟩,
      HG.out.1, by omega, by rw [hcs0]; exact hcl2, fun ad ha => hrow2 ad ha (by omega), hb2, hM2⟩
    clear hM1 hb2 hM2 hcl2 hrow2 ho hm
    have hcb : cs.length ≤ 300000 := by rw [hcs0]; omega
    have hce : (cs.length : Int) = (gc.length : Int) := by rw [hcs0]
    have HCE := Lib.hid hce
    clear hce hcs0 hz0
    go_wp2_with fail
    go_loopw [6, 7, 8, 9] (fun P O av i wr => ∃ (k : Nat) (a : Int), i = .int .i64 k ∧ av = .int .i64 a ∧ k ≤ cs.length ∧ Hid (RuIs data w (some ⟨ba, bo, none⟩) cs k a P O wr)) (fun _ _ _ i _ => cs.length - (intOf i).toNat)
    case atStart => exact ⟨0, 0, by go_num, rfl, by omega, HB0⟩
    case round =>
      obtain ⟨k, a, rfl, rfl, hk, HX⟩ := hrel
      by_cases hlt : k < cs.length
      · have i2 : (k : Int) < (cs.length : Int) := by omega
        have i3 : (0 : Int) ≤ (k : Int) := by omega
        have i4 : (k : Int) < (gc.length : Int) := by have := HCE.out; omega
        have hL : data.data.toList.length = data.size := by simp
        obtain ⟨done, hdl, hpe, hown, hobs⟩ := HX.out.ex
        have hgd := HX.out.good
        have ha0 := HX.out.pos
        rw [List.drop_eq_getElem_cons hlt] at hgd hpe
        obtain ⟨g1, g2, g3, g4⟩ := hgd
        simp only [pieces] at hpe
        have x0 : wr.cell? ⟨ba, bo + k, none⟩ = some (.int .i64 cs[k]) := by
          rcases HX.out.cells with h | ⟨b, o, hb, hc⟩
          · have : cs = [] := by simpa using h
            subst this; simp at hlt
          · injection hb with hb
            injection hb with hb1 hb2
            rw [hb1, hb2]
            exact hc k _ (by simp [hlt])
        obtain ⟨c, hc⟩ : ∃ c, cs[k] = c := ⟨_, rfl⟩
        rw [hc] at g1 g2 g3 g4 hpe x0
        have hab : ba < wr.heap.size := World.block_lt_of_cell? _ _ x0
        have X0 := Lib.hid x0
        try simp only [Nat.zero_add] at x0
        have hpl := some_len (l := data.data.toList) (a := a) (c := c) ha0 (by omega) (by rw [hL]; exact g3)
        have hsl := run_some data a c ha0 (by omega) g3
        have hwr : IntKind.i64.wrap (c - a) = c - a := by rw [IntKind.wrap_i64]; omega
        obtain ⟨PC, hPC⟩ : ∃ PC, some_ data.data.toList a c = PC := ⟨_, rfl⟩
        rw [hPC] at hpl hpe hsl
        have hsz : (⟨PC.toArray⟩ : ByteArray).size = PC.length := by simp [ByteArray.size]
        have hch := fun w1 => rChunk_calls ⟨PC.toArray⟩ w1 (by omega)
        have hdec : decide ((⟨PC.toArray⟩ : ByteArray).size ≤ 1024) = true := decide_eq_true (by omega)
        simp only [hdec, Bool.not_true, putV_f, show (⟨PC.toArray⟩ : ByteArray).data.toList = PC from rfl] at hch
        have hco : chunkOb PC = ⟨⟨(Hash.sha (chunkB PC)).toArray⟩, ⟨(chunkB PC).toArray⟩⟩ := rfl
        have hid := sha_size (chunkB PC)
        unfold shaS at hid
        have hcp : chunkPart PC = ⟨(chunkOb PC).id, c - a⟩ := by unfold chunkPart; rw [hpl]
        rw [hco] at hcp
        obtain ⟨ID, hID⟩ : ∃ ID : ByteArray, (⟨(Hash.sha (chunkB PC)).toArray⟩ : ByteArray) = ID := ⟨_, rfl⟩
        obtain ⟨BY, hBY⟩ : ∃ BY : ByteArray, (⟨(chunkB PC).toArray⟩ : ByteArray) = BY := ⟨_, rfl⟩
        simp only [hID, hBY] at hch hco hid hcp
        have HCH := Lib.hid hch
        have HPE := Lib.hid hpe
        have HOWN := Lib.hid hown
        have HOBS := Lib.hid hobs
        have HCO := Lib.hid hco
        have HCP := Lib.hid hcp
        have HG4 := Lib.hid g4
        clear hch hpe hown hobs hco hcp g4 hc hPC hID hBY hdec hL
        go_wp2_with fail
        refine (HCH.out _).mono ?_
        rintro e w3 ⟨rfl, hm3⟩
        have hM4 := hm3.alloc (.cells #[.string ID, .string BY] 60)
        have hb4 := Has.new w3 [.string ID, .string BY] 60
        have hown4 := own_keep HOWN.out hM4 (fun _ _ _ h => h)
        have hobs4 := own_keep HOBS.out hM4 (fun _ _ _ h => h)
        have hcl4 := HX.out.cells.keep hM4 (fun _ _ h => h)
        have hrow4 := fun ad ha => row_keep (HX.out.row ad ha) hM4 (fun h => h)
        have hbx4 := HX.out.box.keep hM4 (fun h => h)
        have HM4 := Lib.hid (Mod.trans HX.out.mod hM4 (fun _ _ h => h))
        have x4 := (hM4.cell (p := ⟨ba, bo + k, none⟩) hab (fun h => h)).trans X0.out
        have HZ4 := Lib.hid hM4.size
        have hbw : w.heap.size + 1 ≤ w3.heap.size + 1 := by have := hbx4.lt; simp at this; omega
        have y0 := hb4.cell (o := 0) rfl
        have y1 := hb4.cell (o := 1) rfl
        have hub : ∀ g, u6.ownBlock = some g → w.heap.size + 1 ≤ g := fun g h => (HOWN.out.lt g h).1
        have hnb : ¬ (u6.ownBlock = some w3.heap.size ∨ w3.heap.size + 1 ≤ w3.heap.size) := by
          rintro (h | h)
          · exact absurd rfl (has_ne hb4 (own_row hown4 h) (by decide))
          · omega
        have hni : ¬ (u6.ownBlock = some ba ∨ w3.heap.size + 1 ≤ ba) := by
          rintro (h | h)
          · obtain ⟨cur, fr, h1⟩ := hrow4 ⟨ba, bo, none⟩ rfl
            obtain ⟨cur', fr', h2⟩ := own_row hown4 h
            rw [h1] at h2
            injection h2 with h2
            injection h2 with _ h2
            exact absurd h2 (by decide)
          · have := World.block_lt_of_cell? _ _ x4; simp at this; omega
        have fv0 := fun (w' : World) (mm : Mod (fun g => u6.ownBlock = some g ∨ w3.heap.size + 1 ≤ g) (w3.alloc (.cells #[.string ID, .string BY] 60)).drew w') => (mm.cell (p := ⟨w3.heap.size, 0, none⟩) hb4.lt hnb).trans y0
        have fv1 := fun (w' : World) (mm : Mod (fun g => u6.ownBlock = some g ∨ w3.heap.size + 1 ≤ g) (w3.alloc (.cells #[.string ID, .string BY] 60)).drew w') => (mm.cell (p := ⟨ba, bo + k, none⟩) (World.block_lt_of_cell? _ _ x4) hni).trans x4
        have X4 := Lib.hid x4
        try simp only [Nat.zero_add] at fv1
        try simp only [Nat.zero_add] at x4
        have HB4 := Lib.hid hb4
        have HOWN4 := Lib.hid hown4
        have HOBS4 := Lib.hid hobs4
        have HCL4 := Lib.hid hcl4
        have HROW4 := Lib.hid hrow4
        have HBX4 := Lib.hid hbx4
        have HNI := Lib.hid hni
        have HNB := Lib.hid hnb
        have HUB := Lib.hid hub
        clear hm3 hM4 hb4 hown4 hobs4 hcl4 hrow4 hbx4 hnb hni hub HCH HOWN HOBS
        go_wp2_with fail
        refine region_mT (fun g => u6.ownBlock = some g ∨ w3.heap.size + 1 ≤ g) (by kernel_rfl) ?_
        simp only [List.length_cons, List.length_nil, List.replicate]
        refine take0T (v := ?v22) (oi := ?o22) 0 ?hi22 (by kernel_rfl) (by kernel_rfl) (by kernel_rfl) ?hq22 ?hy22 ?_
        case hi22 => (simp only [List.getElem?_toArray, List.getElem?_cons_zero, List.getElem?_cons_succ]; rfl)
        case hq22 => exact fun _ _ _ h => h
        case hy22 => first | (refine ry_notS ?_; rfl) | (refine ry_runS (by rfl) (fun w' hw' => ?_); go_simp; try rfl)
        simp only [Act.put, List.setIfInBounds_toArray, List.set_cons_zero, List.set_cons_succ]
        refine take0T (v := ?v23) (oi := ?o23) 1 ?hi23 (by kernel_rfl) (by kernel_rfl) (by kernel_rfl) ?hq23 ?hy23 ?_
        case hi23 => (simp only [List.getElem?_toArray, List.getElem?_cons_zero, List.getElem?_cons_succ]; rfl)
        case hq23 => exact fun _ _ _ h => h
        case hy23 => first | (refine ry_notS ?_; rfl) | (refine ry_runS (by rfl) (fun w' hw' => ?_); go_simp; try rfl)
        simp only [Act.put, List.setIfInBounds_toArray, List.set_cons_zero, List.set_cons_succ]
        refine take0T (v := ?v24) (oi := ?o24) 2 ?hi24 (by kernel_rfl) (by kernel_rfl) (by kernel_rfl) ?hq24 ?hy24 ?_
        case hi24 => (simp only [List.getElem?_toArray, List.getElem?_cons_zero, List.getElem?_cons_succ]; rfl)
        case hq24 => exact fun _ _ _ h => h
        case hy24 => first | (refine ry_notS ?_; rfl) | (refine ry_runS (by rfl) (fun w' hw' => ?_); go_simp; try rfl)
        simp only [Act.put, List.setIfInBounds_toArray, List.set_cons_zero, List.set_cons_succ]
        refine take0T (v := ?v25) (oi := ?o25) 3 ?hi25 (by kernel_rfl) (by kernel_rfl) (by kernel_rfl) ?hq25 ?hy25 ?_
        case hi25 => (simp only [List.getElem?_toArray, List.getElem?_cons_zero, List.getElem?_cons_succ]; rfl)
        case hq25 => exact fun _ _ _ h => h
        case hy25 => first | (refine ry_notS ?_; rfl) | (refine ry_runS (by rfl) (fun w' hw' => ?_); go_simp; try rfl)
        simp only [Act.put, List.setIfInBounds_toArray, List.set_cons_zero, List.set_cons_succ]
        refine take0T (v := ?v26) (oi := ?o26) 4 ?hi26 (by kernel_rfl) (by kernel_rfl) (by kernel_rfl) ?hq26 ?hy26 ?_
        case hi26 => (simp only [List.getElem?_toArray, List.getElem?_cons_zero, List.getElem?_cons_succ]; rfl)
        case hq26 => exact fun _ _ _ h => h
        case hy26 => first | (refine ry_notS ?_; rfl) | (refine ry_runS (by rfl) (fun w' hw' => ?_); go_simp; try rfl)
        simp only [Act.put, List.setIfInBounds_toArray, List.set_cons_zero, List.set_cons_succ]
        refine take0T (v := ?v27) (oi := ?o27) 5 ?hi27 (by kernel_rfl) (by kernel_rfl) (by kernel_rfl) ?hq27 ?hy27 ?_
        case hi27 => (simp only [List.getElem?_toArray, List.getElem?_cons_zero, List.getElem?_cons_succ]; rfl)
        case hq27 => exact fun _ _ _ h => h
        case hy27 => first | (refine ry_notS ?_; rfl) | (refine ry_runS (by rfl) (fun w' hw' => ?_); go_simp; try rfl)
        simp only [Act.put, List.setIfInBounds_toArray, List.set_cons_zero, List.set_cons_succ]
        refine take0T (v := ?v28) (oi := ?o28) 6 ?hi28 (by kernel_rfl) (by kernel_rfl) (by kernel_rfl) ?hq28 ?hy28 ?_
        case hi28 => (simp only [List.getElem?_toArray, List.getElem?_cons_zero, List.getElem?_cons_succ]; rfl)
        case hq28 => exact fun _ _ _ h => h
        case hy28 => first | (refine ry_notS ?_; rfl) | (refine ry_runS (by rfl) (fun w' hw' => ?_); go_simp; try rfl)
        simp only [Act.put, List.setIfInBounds_toArray, List.set_cons_zero, List.set_cons_succ]
        refine take0T (v := ?v29) (oi := ?o29) 7 ?hi29 (by kernel_rfl) (by kernel_rfl) (by kernel_rfl) ?hq29 ?hy29 ?_
        case hi29 => (simp only [List.getElem?_toArray, List.getElem?_cons_zero, List.getElem?_cons_succ]; rfl)
        case hq29 => exact fun _ _ _ h => h
        case hy29 => first | (refine ry_notS ?_; rfl) | (refine ry_runS (by rfl) (fun w' hw' => ?_); go_simp; try rfl)
        simp only [Act.put, List.setIfInBounds_toArray, List.set_cons_zero, List.set_cons_succ]
        refine take0T (v := ?v30) (oi := ?o30) 8 ?hi30 (by kernel_rfl) (by kernel_rfl) (by kernel_rfl) ?hq30 ?hy30 ?_
        case hi30 => (simp only [List.getElem?_toArray, List.getElem?_cons_zero, List.getElem?_cons_succ]; rfl)
        case hq30 => exact fun _ _ _ h => h
        case hy30 => first | (refine ry_notS ?_; rfl) | (refine ry_runS (by rfl) (fun w' hw' => ?_); go_simp; try rfl)
        simp only [Act.put, List.setIfInBounds_toArray, List.set_cons_zero, List.set_cons_succ]
        refine take0T (v := ?v31) (oi := ?o31) 9 ?hi31 (by kernel_rfl) (by kernel_rfl) (by kernel_rfl) ?hq31 ?hy31 ?_
        case hi31 => (simp only [List.getElem?_toArray, List.getElem?_cons_zero, List.getElem?_cons_succ]; rfl)
        case hq31 => exact fun _ _ _ h => h
        case hy31 => first | (refine ry_notS ?_; rfl) | (refine ry_runS (by rfl) (fun w' hw' => ?_); go_simp; try rfl)
        simp only [Act.put, List.setIfInBounds_toArray, List.set_cons_zero, List.set_cons_succ]
        refine step0T (o := ?o32) 10 (by kernel_rfl) ?hi32 ?hw32 ?_
        case hi32 => (simp only [List.getElem?_toArray, List.getElem?_cons_zero, List.getElem?_cons_succ]; rfl)
        case hw32 => rfl
        go_simp
        refine ⟨.inl (Mod.alloc (Mod.refl _ _) _), ?_⟩
        refine step0T (o := ?o33) 11 (by kernel_rfl) ?hi33 ?hw33 ?_
        case hi33 => (simp only [List.getElem?_toArray, List.getElem?_cons_zero, List.getElem?_cons_succ]; rfl)
        case hw33 => rfl
        refine appG_step (.tmp 42) (.tmp 52) part_t (w.heap.size + 1) u6 k ((done.map chunkPart).flatMap pc) ((own_keep HOWN4.out ((Mod.refl (fun _ => False) _).drew) (fun _ _ _ h => h)).alloc _) (some ⟨w3.heap.size + 1, 0, none⟩) 1 1 [.string ID, .int .i64 (c - a)] rfl rfl rfl rfl (cells_lit (by simp)) (by intro u hu; simp at hu; rcases hu with rfl | rfl <;> rfl) (by omega) (by unfold maxLen; omega) (by simp; omega) ?_
        intro v5 w5 ho5 hm5 hr5
        refine ⟨.inl (hm5.mono fun _ _ h => .inl h), ?_⟩
        have hM5 := Mod.trans (((Mod.refl (fun g => u6.ownBlock = some g) (w3.alloc (.cells #[.string ID, .string BY] 60))).drew).alloc (.cells #[.string ID, .int .i64 (c - a)] 25)) hm5 (fun _ _ h => h)
        simp only [Act.put, List.setIfInBounds_toArray, List.set_cons_zero, List.set_cons_succ]
        refine take0T (v := ?v34) (oi := ?o34) 12 ?hi34 (by kernel_rfl) (by kernel_rfl) (by kernel_rfl) ?hq34 ?hy34 ?_
        case hi34 => (simp only [List.getElem?_toArray, List.getElem?_cons_zero, List.getElem?_cons_succ]; rfl)
        case hq34 => exact fun _ _ _ h => h
        case hy34 => first | (refine ry_notS ?_; rfl) | (refine ry_runS (by rfl) (fun w' hw' => ?_); go_simp; try rfl)
        simp only [Act.put, List.setIfInBounds_toArray, List.set_cons_zero, List.set_cons_succ]
        refine wpAnyT_done (by kernel_rfl) ?_
        clear fv0 fv1
        have hb5 := HB4.out.keep hM5 (fun h => HNB.out (.inl h))
        have z0 := hb5.cell (o := 0) rfl
        have z1 := hb5.cell (o := 1) rfl
        have x5 := (hM5.cell (p := ⟨ba, bo + k, none⟩) (Nat.lt_of_lt_of_le hab HZ4.out) (fun h => HNI.out (.inl h))).trans X4.out
        have X5 := Lib.hid x5
        have hobs5 := own_keep HOBS4.out hM5 (fun g _ hg h => by
          obtain ⟨cur, fr, h1⟩ := own_row HOBS4.out hg
          obtain ⟨cur', fr', h2⟩ := own_row HOWN4.out h
          rw [h1] at h2; injection h2 with h2; injection h2 with _ h2; exact absurd h2 (by decide))
        have hcl5 := HCL4.out.keep hM5 (fun ad ha h => by injection ha with ha; subst ha; exact HNI.out (.inl h))
        have hrow5 := fun ad (ha : some (⟨ba, bo, none⟩ : Addr) = some ad) => row_keep (HROW4.out ad ha) hM5 (fun h => by injection ha with ha; subst ha; exact HNI.out (.inl h))
        have hbx5 := HBX4.out.keep hM5 (fun h => by have := HUB.out _ h; omega)
        have hM5b := Mod.trans HM4.out hM5 (fun i hi h => by have := HUB.out _ h; omega)
        have HZ5 := Lib.hid (Nat.le_trans HZ4.out hM5.size)
        have hz5 := hM5.size
        rw [size_alloc] at hz5
        have HO5 := Lib.hid ho5
        have HOBS5 := Lib.hid hobs5
        have HCL5 := Lib.hid hcl5
        have HROW5 := Lib.hid hrow5
        have HBX5 := Lib.hid hbx5
        have HM5 := Lib.hid hM5b
        have hnew := cells_new w5 [.string ID, .string BY] 60
        try simp only [Nat.zero_add] at x5
        clear hb5 hobs5 hcl5 hrow5 hbx5 hM5 hM5b hm5 ho5 hr5 x0 x4 y0 y1 HNI HNB HUB
        go_wp2_with (first
          | (at_builtin
             go_must (refine app (.tmp 54) (.tmp 56) objs_t (w.heap.size + 1) u7 k ((done.map chunkOb).flatMap oc) (HOBS5.out.alloc _) ⟨w5.heap.size, 0, none⟩ 1 1 [.string ID, .string BY] rfl rfl rfl rfl rfl hnew (by intro u hu; simp at hu; rcases hu with rfl | rfl <;> rfl) (by omega) (by unfold maxLen; omega) (by simp; omega) ?_; intro v7 w7 ho7 hm7)
             have hM7 := Mod.trans ((Mod.refl (fun g => w.heap.size + 1 ≤ g ∧ u7.ownBlock = some g) w5).alloc (.cells #[.string ID, .string BY] 60)) hm7 (fun _ _ h => h)
             have hni7 : ¬ (w.heap.size + 1 ≤ ba ∧ u7.ownBlock = some ba) := fun h => by
               obtain ⟨cur, fr, h1⟩ := HROW5.out ⟨ba, bo, none⟩ rfl
               obtain ⟨cur', fr', h2⟩ := own_row HOBS5.out h.2
               rw [h1] at h2
               injection h2 with h2
               injection h2 with _ h2
               exact absurd h2 (by decide)
             have x7 := (hM7.cell (p := ⟨ba, bo + k, none⟩) (Nat.lt_of_lt_of_le hab HZ5.out) hni7).trans X5.out
             have HO7 := Lib.hid ho7
             have HM7 := Lib.hid hM7
             have HNI7 := Lib.hid hni7
             try simp only [Nat.zero_add] at x7
             clear ho7 hm7 hM7 hni7))
        have hnx : RuIs data w (some ⟨ba, bo, none⟩) cs (k + 1) c v5 v7 w7 := by
          refine ⟨⟨done ++ [PC], by simp [hdl], by rw [HPE.out]; simp, ?_, ?_⟩, HG4.out, by omega, HCL5.out.keep HM7.out (fun ad ha h => by injection ha with ha; subst ha; exact HNI7.out h), fun ad ha => row_keep (HROW5.out ad ha) HM7.out (fun h => by injection ha with ha; subst ha; exact HNI7.out h), HBX5.out.keep HM7.out (fun h => by have := h.1; omega), Mod.trans HM5.out HM7.out (fun i hi h => by have := h.1; omega)⟩
          · rw [List.map_append, List.flatMap_append]
            simp only [List.map_cons, List.map_nil, HCP.out]
            exact own_keep HO5.out HM7.out (fun g _ hg h => by
              obtain ⟨cur, fr, h1⟩ := own_row HO5.out hg
              obtain ⟨cur', fr', h2⟩ := own_row HOBS5.out h.2
              rw [h1] at h2; injection h2 with h2; injection h2 with _ h2; exact absurd h2 (by decide))
          · rw [List.map_append, List.flatMap_append]
            simp only [List.map_cons, List.map_nil, HCO.out]
            exact HO7.out
        have HNX := Lib.hid hnx
        clear hnx x5
        go_roundw
        case rel => exact ⟨k + 1, c, by go_num, rfl, by omega, HNX⟩
        case measure => simp [intOf]; omega
      · have hkl : k = cs.length := by omega
        have i4 : ¬ (k : Int) < (gc.length : Int) := by have := HCE.out; omega
        obtain ⟨done, hdl, hpe, hown, hobs⟩ := HX.out.ex
        rw [hkl, List.drop_length] at hpe
        simp only [pieces, List.append_nil] at hpe
        obtain ⟨A1, c1, he1, _, _, _, _⟩ := own_cells hown
        have hdn : done.length = (done.map chunkPart).length := by simp
        have hdo : done.length = (done.map chunkOb).length := by simp
        have hfo := HFO.out
        have hbl := HBL.out
        rw [hpe] at hfo hbl
        have hcs0 := HG.out.2.1
        have hpos : 1 ≤ cs.length := List.length_pos_iff.2 hcs0
        have hL0 : RvIs w (done.map chunkOb) (done.map chunkPart) 0 1 A1 c1 (done.map chunkPart) u7 wr := by
          refine ⟨⟨done.map chunkOb, by rw [← hdo, hdl]; exact hobs, by rw [← hdo, ← hdn]; omega, rfl, rfl⟩, ?_, fun h => hfo (by rw [← hdn, hdl] at h; omega), by rw [← hdn, show (2 : Nat) ^ (20 - 0) = 1048576 from rfl]; omega, by rw [← hdn]; omega, by simp, HX.out.box, HX.out.mod⟩
          rw [← hdn, hdl, ← he1]; exact hown
        have hst : u6 = .slice A1 (done.map chunkPart).length c1 := by rw [he1, ← hdn, hdl]
        have HL0 := Lib.hid hL0
        have HBLL := Lib.hid hbl
        obtain ⟨l0, hl0⟩ : ∃ l0, done.map chunkPart = l0 := ⟨_, rfl⟩
        obtain ⟨o0, ho0⟩ : ∃ o0, done.map chunkOb = o0 := ⟨_, rfl⟩
        rw [hl0] at hst HBLL
        rw [ho0] at HBLL
        simp only [hl0, ho0] at HL0
        subst hst
        clear he1 hL0 hbl hfo hpe hown hobs hdn hdo hdl hl0 ho0 hcs0
        go_wp2_with fail
        go_loopw [6, 7, 12] (fun s O v wr => ∃ (i : Nat) (lv : Int) (A' : Option Addr) (c' : Nat) (r : List Part), s = .slice A' r.length c' ∧ v = .int .i64 lv ∧ i ≤ 20 ∧ 1 ≤ lv ∧ lv ≤ 21 ∧ Hid (RvIs w o0 l0 i lv A' c' r O wr)) (fun _ _ v _ => 22 - (intOf v).toNat)
        case atStart => exact ⟨0, 1, A1, c1, l0, rfl, rfl, by omega, by omega, by omega, HL0⟩
        case round =>
          obtain ⟨i, lv, A', c', r, rfl, rfl, hi, hlv1, hlv2, HL⟩ := hrel
          by_cases hr1 : 1 < r.length
          · have j1 : (1 : Int) < (r.length : Int) := by omega
            obtain ⟨obs, hob, hnl, hf, hp⟩ := HL.out.ex
            have hpow := HL.out.pow
            have hi20 : i < 20 := by
              rcases Nat.lt_or_ge i 20 with h | h
              · exact h
              · have : i = 20 := by omega
                subst this
                simp at hpow; omega
            obtain ⟨m, hm⟩ : ∃ m, 20 - i = m + 1 := ⟨19 - i, by omega⟩
            rw [hm] at hf hp hpow
            have hlev := HL.out.lev
            obtain ⟨A2, c2, he, hcap, hcl, hadr, _⟩ := own_cells HL.out.own
            obtain ⟨rfl, rfl⟩ : A' = A2 ∧ c' = c2 := by simpa using he
            have Hba := Lib.hid (rAbove_calls lv A' c' r wr hcl ⟨by omega, by omega⟩ (HL.out.ok hr1) (by omega))
            have hgm := gr_many r []
            have hgp := gr_pos r [] (by intro e; rw [List.nil_append] at e; rw [e] at hr1; simp at hr1)
            have hnk := next_ok (level := lv) ⟨by omega, by omega⟩ (HL.out.ok hr1)
            have hbw : w.heap.size + 1 ≤ wr.heap.size := HL.out.box.lt
            have h2 : (2 : Nat) ^ (m + 1) = 2 * 2 ^ m := by rw [Nat.pow_succ, Nat.mul_comm]
            rw [h2] at hpow
            rw [List.length_nil] at hgm
            unfold levelsL at hf hp
            rw [if_neg (by omega)] at hf hp
            dsimp only at hf hp
            rw [← List.append_assoc] at hf
            have HF := Lib.hid hf
            have HPP := Lib.hid hp
            have HNK := Lib.hid hnk
            have HOB := Lib.hid hob
            have HNUM := Lib.hid (And.intro hpow (And.intro hgm (And.intro hgp (And.intro hnl (And.intro hm (And.intro hlev hbw))))))
            clear hf hp hnk hpow hgm hgp hm h2 hlev he hcap hcl hadr hob hnl hbw
            go_wp2_with fail
            refine Hba.out.mono ?_
            rintro e w3 ⟨P', O', rfl, hown', hobs', hm'⟩
            obtain ⟨A3, c3, rfl, _, _, _, _⟩ := own_cells hown'
            obtain ⟨A4, c4, rfl, _, hcl4, _, _⟩ := own_cells hobs'
            have hOB3 := own_keep HOB.out hm' (fun _ _ _ h => h)
            have HOWN3 := Lib.hid hown'
            have HOB3 := Lib.hid hOB3
            have HC4 := Lib.hid hcl4
            have HM3 := Lib.hid hm'
            have HBX3 := Lib.hid (HL.out.box.keep hm' (fun h => h))
            have hgl : (gr [] r).length = ((gr [] r).map (fanOb lv)).length := (List.length_map _).symm
            have hz3 : w.heap.size + 1 ≤ w3.heap.size := by obtain ⟨_, _, _, _, _, _, hbw⟩ := HNUM.out; have := hm'.size; omega
            have hbd : obs.length + (gr [] r).length ≤ 900000 := by obtain ⟨hpow, hgm, hgp, hnl, hm, hlev, hbw⟩ := HNUM.out; omega
            obtain ⟨G, hG⟩ : ∃ G, (gr [] r).length = G := ⟨_, rfl⟩
            rw [hG] at hgl hbd
            have HGL := Lib.hid hgl
            have HG := Lib.hid hG
            simp only [hG]
            have HW3 : Hid (w3.ownsRow wr.heap.size 25 2 (.slice A3 G c3) G (((gr [] r).map (fanPart lv)).flatMap pc)) := Lib.hid (by have := HOWN3.out; rw [hG] at this; exact this)
            clear hown' hobs' hm' hOB3 hcl4 hgl hG HOWN3
            go_wp2_with (first
              | (at_builtin
                 go_must (refine appG (.tmp 72) (.tmp 73) objs_t (w.heap.size + 1) u7 obs.length (obs.flatMap oc) HOB3.out A4 G c4 (((gr [] r).map (fanOb lv)).flatMap oc) rfl rfl rfl rfl (by rw [flat_len oc_len, HGL.out]) HC4.out (by intro u hu; simp only [List.mem_flatMap, oc, List.mem_cons, List.not_mem_nil, or_false] at hu; obtain ⟨x, _, rfl | rfl⟩ := hu <;> rfl) (by omega) (by unfold maxLen; omega) hz3 ?_; intro v5 w5 ho5 hm5 _)
                 have HO5 := Lib.hid ho5
                 have HM5 := Lib.hid hm5
                 clear ho5 hm5))
            have hnx : RvIs w o0 l0 (i + 1) (lv + 1) A3 c3 ((gr [] r).map (fanPart lv)) v5 w5 := by
              obtain ⟨hpow, hgm, hgp, hnl, hm, hlev, hbw⟩ := HNUM.out
              have hm2 : 20 - (i + 1) = m := by omega
              have hG := HG.out
              have hub : ∀ g, u7.ownBlock = some g → w.heap.size + 1 ≤ g := fun g h => (HOB3.out.lt g h).1
              refine ⟨⟨obs ++ (gr [] r).map (fanOb lv), ?_, by simp only [List.length_append, List.length_map]; omega, by rw [hm2]; exact HF.out, by rw [hm2]; exact HPP.out⟩, ?_, fun _ => HNK.out, by rw [List.length_map, hm2]; omega, by rw [List.length_map]; exact hgp, by rw [hlev]; omega,
                HBX3.out.keep HM5.out (fun h => by have := hub _ h; omega), Mod.trans (Mod.trans HL.out.mod HM3.out (fun _ _ h => h)) HM5.out (fun i hi h => by have := hub _ h; omega)⟩
              · rw [List.flatMap_append, List.length_append, ← HGL.out]; exact HO5.out
              · rw [List.length_map, hG]
                exact own_base (own_keep HW3.out HM5.out (fun g _ hg h => by
                  obtain ⟨cur, fr, h1⟩ := own_row HW3.out hg
                  obtain ⟨cur', fr', h2⟩ := own_row HOB3.out h
                  rw [h1] at h2; injection h2 with h2; injection h2 with _ h2; exact absurd h2 (by decide))) hbw
            have HNX := Lib.hid hnx
            have hgl2 : ((gr [] r).map (fanPart lv)).length = G := by rw [List.length_map]; exact HG.out
            have HGL2 := Lib.hid hgl2
            clear hnx hgl2
            go_roundw
            case rel => exact ⟨i + 1, lv + 1, A3, c3, _, by rw [HGL2.out], rfl, by omega, by omega, by have := HL.out.lev; omega, HNX⟩
            case measure => simp [intOf]; omega
          · have j1 : ¬ (1 : Int) < (r.length : Int) := by omega
            have hr : r.length = 1 := by have := HL.out.one; omega
            obtain ⟨obs, hob, hnl, hf, hp⟩ := HL.out.ex
            rw [levels_one (by omega)] at hf hp
            obtain ⟨p, rfl⟩ : ∃ p, r = [p] := by
              cases r with
              | nil => simp at hr
              | cons p r => cases r with
                | nil => exact ⟨p, rfl⟩
                | cons _ _ => simp at hr
            dsimp only [List.append_nil] at hf hp
            rw [List.append_nil] at hf
            have hblL := HBLL.out
            rw [← hp, ← hf] at hblL
            obtain ⟨A9, c9, rfl, _, hcl9, _, _⟩ := own_cells hob
            obtain ⟨A2, c2, he, _, hclr, _, _⟩ := own_cells HL.out.own
            obtain ⟨rfl, rfl⟩ : A' = A2 ∧ c' = c2 := by simpa using he
            rcases hclr with h | ⟨ba, bo, rfl, hcell⟩
            · cases h
            have y0 := hcell 0 (.string p.id) rfl
            have y1 := hcell 1 (.int .i64 p.size) rfl
            rw [Nat.add_zero] at y0
            have hbx := HL.out.box
            have HKT := Lib.hid (fun w1 (mm : Mod (fun _ => False) wr w1) => rKept_calls A9 c9 obs w1 (hcl9.keep mm (fun _ _ h => h)) (by omega))
            have hbl1 := World.block_lt_of_cell? wr _ y0
            have fv0 := fun (w' : World) (mm : Mod0 wr.drew w') => ((Mod.of_drew_l mm).cell (p := ⟨ba, bo, none⟩) hbl1 (fun h => h)).trans y0
            have fv1 := fun (w' : World) (mm : Mod0 wr.drew w') => ((Mod.of_drew_l mm).cell (p := ⟨ba, bo + 1, none⟩) hbl1 (fun h => h)).trans y1
            have HBX := Lib.hid hbx
            have HB9 := Lib.hid hblL
            clear hbx hcl9 hob hf hp hblL hcell he hr hnl
            go_wp2_with fail
            refine region_mT (fun _ => False) (by kernel_rfl) ?_
            simp only [List.length_cons, List.length_nil, List.replicate]
            refine take0T (v := ?v35) (oi := ?o35) 0 ?hi35 (by kernel_rfl) (by kernel_rfl) (by kernel_rfl) ?hq35 ?hy35 ?_
            case hi35 => (simp only [List.getElem?_toArray, List.getElem?_cons_zero, List.getElem?_cons_succ]; rfl)
            case hq35 => exact fun _ _ _ h => h
            case hy35 => first | (refine ry_notS ?_; rfl) | (refine ry_runS (by rfl) (fun w' hw' => ?_); go_simp; try rfl)
            simp only [Act.put, List.setIfInBounds_toArray, List.set_cons_zero, List.set_cons_succ]
            refine take0T (v := ?v36) (oi := ?o36) 1 ?hi36 (by kernel_rfl) (by kernel_rfl) (by kernel_rfl) ?hq36 ?hy36 ?_
            case hi36 => (simp only [List.getElem?_toArray, List.getElem?_cons_zero, List.getElem?_cons_succ]; rfl)
            case hq36 => exact fun _ _ _ h => h
            case hy36 => first | (refine ry_notS ?_; rfl) | (refine ry_runS (by rfl) (fun w' hw' => ?_); go_simp; try rfl)
            simp only [Act.put, List.setIfInBounds_toArray, List.set_cons_zero, List.set_cons_succ]
            refine take0T (v := ?v37) (oi := ?o37) 2 ?hi37 (by kernel_rfl) (by kernel_rfl) (by kernel_rfl) ?hq37 ?hy37 ?_
            case hi37 => (simp only [List.getElem?_toArray, List.getElem?_cons_zero, List.getElem?_cons_succ]; rfl)
            case hq37 => exact fun _ _ _ h => h
            case hy37 => first | (refine ry_notS ?_; rfl) | (refine ry_runS (by rfl) (fun w' hw' => ?_); go_simp; try rfl)
            simp only [Act.put, List.setIfInBounds_toArray, List.set_cons_zero, List.set_cons_succ]
            refine take0T (v := ?v38) (oi := ?o38) 3 ?hi38 (by kernel_rfl) (by kernel_rfl) (by kernel_rfl) ?hq38 ?hy38 ?_
            case hi38 => (simp only [List.getElem?_toArray, List.getElem?_cons_zero, List.getElem?_cons_succ]; rfl)
            case hq38 => exact fun _ _ _ h => h
            case hy38 => first | (refine ry_notS ?_; rfl) | (refine ry_runS (by rfl) (fun w' hw' => ?_); go_simp; try rfl)
            simp only [Act.put, List.setIfInBounds_toArray, List.set_cons_zero, List.set_cons_succ]
            refine step0T (o := ?o39) 4 (by kernel_rfl) ?hi39 ?hw39 ?_
            case hi39 => (simp only [List.getElem?_toArray, List.getElem?_cons_zero, List.getElem?_cons_succ]; rfl)
            case hw39 => rfl
            go_simp
            refine (HKT.out _ ((Mod.refl _ _).drew)).mono ?_
            rintro e w4 ⟨vk, rfl, hvk, hm4⟩
            refine ⟨.inl hm4, ?_⟩
            have hm4' := Mod.of_drew_l hm4
            have hbx4 := HBX.out.keep hm4' (fun h => h)
            have q0 := hbx4.cell (o := 0) rfl
            have q1 := hbx4.cell (o := 1) rfl
            have r0 := hbx4.frozen 0
            have r1 := hbx4.frozen 1
            refine step0T (o := ?o40) 5 (by kernel_rfl) ?hi40 ?hw40 ?_
            case hi40 => (simp only [List.getElem?_toArray, List.getElem?_cons_zero, List.getElem?_cons_succ]; rfl)
            case hw40 => rfl
            go_simp
            refine ⟨.inr (by kernel_rfl), ?_⟩
            refine take0T (v := ?v41) (oi := ?o41) 6 ?hi41 (by kernel_rfl) (by kernel_rfl) (by kernel_rfl) ?hq41 ?hy41 ?_
            case hi41 => (simp only [List.getElem?_toArray, List.getElem?_cons_zero, List.getElem?_cons_succ]; rfl)
            case hq41 => exact fun _ _ _ h => h
            case hy41 => first | (refine ry_notS ?_; rfl) | (refine ry_runS (by rfl) (fun w' hw' => ?_); go_simp; try rfl)
            simp only [Act.put, List.setIfInBounds_toArray, List.set_cons_zero, List.set_cons_succ]
            refine take0T (v := ?v42) (oi := ?o42) 7 ?hi42 (by kernel_rfl) (by kernel_rfl) (by kernel_rfl) ?hq42 ?hy42 ?_
            case hi42 => (simp only [List.getElem?_toArray, List.getElem?_cons_zero, List.getElem?_cons_succ]; rfl)
            case hq42 => exact fun _ _ _ h => h
            case hy42 => first | (refine ry_notS ?_; rfl) | (refine ry_runS (by rfl) (fun w' hw' => ?_); go_simp; try rfl)
            simp only [Act.put, List.setIfInBounds_toArray, List.set_cons_zero, List.set_cons_succ]
            refine wpAnyT_done (by kernel_rfl) ?_
            clear fv0 fv1 y0 y1
            have z0 := (hbx4.set 0 (.string p.id)).cell (o := 0) rfl
            have z1 := ((hbx4.set 0 (.string p.id)).set 1 (.int .i64 p.size)).cell (o := 1) rfl
            have z2 := ((hbx4.set 0 (.string p.id)).set 1 (.int .i64 p.size)).cell (o := 0) rfl
            have hmS : Mod (fun k => k = w.heap.size) w4 ((w4.setCell ⟨w.heap.size, 0, none⟩ (.string p.id)).setCell ⟨w.heap.size, 1, none⟩ (.int .i64 p.size)) := ((Mod.refl (fun k => k = w.heap.size) w4).setCell (p := ⟨w.heap.size, 0, none⟩) (.inl rfl) _).setCell (p := ⟨w.heap.size, 1, none⟩) (.inl rfl) _
            have hbr : w.heap.size + 1 ≤ wr.heap.size := HBX.out.lt
            have hown9 := own_base (own_keep hvk hmS (fun k hk _ h => by simp at hk; omega)) (Nat.le_trans (Nat.le_succ _) hbr)
            have hM9 := Mod.trans (Mod.trans HL.out.mod hm4' (fun _ _ h => h)) hmS (fun i hi h => by omega)
            have HO9 := Lib.hid hown9
            have HM9 := Lib.hid hM9
            clear hmS hM9 hown9 hvk hm4 hm4' hbx4
            go_wp2_with fail
            refine bodyPost_ret (v := .tuple #[.agg #[.string p.id, .int .i64 p.size], vk, .int .i64 0]) (by simp [results, Tryd.results10, go_sem, z0, z1, z2]) rfl ⟨_, by rw [HB9.out]; rfl, by rw [HB9.out]; exact HO9.out, HM9.out⟩
theorem rBuild_calls (data : ByteArray) (w : World) (hs : data.size ≤ 1048576) :
    Calls Tryd.prog 10 #[.string data] w (BuildPost data.data.toList w) := by
  by_cases hd : data.size ≤ 262144
  · exact rBuild_short data w hd
  · exact rBuild_long data w hs (by omega)
end Blob
end Go.Proofs.YthgcjfpaekpeeaaDoor
