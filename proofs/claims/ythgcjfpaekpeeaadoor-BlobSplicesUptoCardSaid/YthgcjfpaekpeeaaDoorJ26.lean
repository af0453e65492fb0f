/- Joined texts: BlobH. -/
import Derived.Test.YthgcjfpaekpeeaaDoorJ25
import Derived.Test.YthgcjfpaekpeeaaDoorJ9
/- The walk of blob.Build. -/
namespace Go.Proofs.YthgcjfpaekpeeaaDoor
set_option linter.unusedVariables false
set_option linter.unusedSimpArgs false
open Go.RowKit K Wire Go.Maps
namespace Blob
open Go.Proofs.YthgcjfpaekpeeaaDoor.Obj

def buildR (data : List UInt8) : Part × List Ob × Int := if data.length ≤ 262144 then ((buildL data).1, (buildL data).2, 0) else (⟨⟨#[]⟩, 0⟩, [], 100)
def BuildPost (data : List UInt8) (w : World) (e : Ending) (w' : World) : Prop :=
  ∃ v, e = .returned (.tuple #[.agg #[.string (buildR data).1.id, .int .i64 (buildR data).1.size], v, .int .i64 (buildR data).2.2]) ∧
    w'.ownsRow w.heap.size 60 2 v (buildR data).2.1.length ((buildR data).2.1.flatMap oc) ∧ Mod (fun _ => False) w w'
theorem own_has {w : World} {base e n : Nat} {v : Value} {xs : List Value} (h : w.ownsRow base e 1 v n xs) (hx : 0 < n) : ∃ g cap cs, v = .slice (some ⟨g, 0, none⟩) n cap ∧ base ≤ g ∧ g < w.heap.size ∧ Has w g cs e ∧ n ≤ cs.length := by
  obtain ⟨h1, ⟨hv, hn⟩ | ⟨g, cap, cur, hv, hg, hh, hc, hm, hs, ht⟩⟩ := h
  · omega
  · have hH : Has w g cur.toList e := by unfold Has; rw [hh]
    exact ⟨g, cap, cur.toList, hv, hg, hH.lt, hH, by simp; omega⟩
/-- what holds behind k pieces -/
structure BuIs (data : ByteArray) (w : World) (bm bq : Nat) (Ac : Option Addr) (cs : List Int) (k : Nat) (a : Int) (out : Value) (wr : World) : Prop where
  ex : ∃ (done : List (List UInt8)) (vv : Value) (D : DataW Unit), done.length = k ∧ pieces data.data.toList 0 cs = done ++ pieces data.data.toList a (cs.drop k) ∧
    wr.ownsRow (w.heap.size + 1) 25 2 out k ((done.map chunkPart).flatMap pc) ∧ MkIs (w.heap.size + 1) bm bq vv k D ((done.map chunkOb).foldl keepL []) wr ∧
    ((done.map chunkOb).foldl keepL []).length ≤ k
  good : Good 0 a data.size (cs.drop k)
  pos : 0 ≤ a
  cells : Cells wr Ac (cs.map (.int .i64))
  row : ∀ ad, Ac = some ad → ∃ cur fr, wr.heap[ad.block]? = some (.cells cur 3 fr)
  box : Has wr w.heap.size [.string ⟨#[]⟩, .int .i64 0] 25
  mod : Mod (fun _ => False) w wr
/-- a maker's blocks, and rows of parts, are no rows of numbers -/
theorem MkIs.apartI {B bm bq n : Nat} {v : Value} {D : DataW Unit} {l : List Ob} {w : World} (h : MkIs B bm bq v n D l w) {k : Nat} (hk : ∃ cur fr, w.heap[k]? = some (.cells cur 3 fr)) : ¬ (k = bm ∨ k = bq ∨ v.ownBlock = some k) := by
  rintro (rfl | rfl | hv)
  · exact has_ne h.box hk (by decide) rfl
  · obtain ⟨es, clock, hq, _⟩ := h.map
    obtain ⟨cur, fr, hk⟩ := hk
    rw [hq] at hk; cases hk
  · obtain ⟨cur, fr, ho⟩ := own_row h.own hv
    obtain ⟨cur', fr', hk⟩ := hk
    rw [ho] at hk
    injection hk with hk
    injection hk with _ hk
    exact absurd hk (by decide)
theorem levels_one {r : List Part} (h : r.length ≤ 1) : ∀ (n : Nat) (lv : Int), levelsL n lv r = (r, [])
  | 0, _ => rfl
  | n + 1, lv => by unfold levelsL; rw [if_pos h]
structure LvIs (w : World) (bm bq : Nat) (obs0 : List Ob) (l0 : List Part) (i : Nat) (lv : Int) (A : Option Addr) (c : Nat) (r : List Part) (wr : World) : Prop where
  ex : ∃ (vv : Value) (n : Nat) (D : DataW Unit) (obs : List Ob), MkIs (w.heap.size + 1) bm bq vv n D obs wr ∧ obs.length ≤ n ∧ n + 2 * r.length ≤ 900000 ∧
    ((levelsL (20 - i) lv r).2).foldl keepL obs = ((levelsL 20 1 l0).2).foldl keepL obs0 ∧ (levelsL (20 - i) lv r).1 = (levelsL 20 1 l0).1
  own : wr.ownsRow (w.heap.size + 1) 25 2 (.slice A r.length c) r.length (r.flatMap pc)
  ok : 1 < r.length → PartsOk r
  pow : r.length ≤ 2 ^ (20 - i)
  one : 1 ≤ r.length
  lev : lv = (i : Int) + 1
  box : Has wr w.heap.size [.string ⟨#[]⟩, .int .i64 0] 25
  mod : Mod (fun _ => False) w wr
set_option maxRecDepth 100000 in
set_option maxHeartbeats 4000000 in
theorem build_long (data : ByteArray) (w : World) (hs : data.size ≤ 1048576) (hd : 262144 < data.size) :
    Calls Tryd.prog 9 #[.string data] w (BuildPost data.data.toList w) := by
  have hb : buildR data.data.toList = (⟨⟨#[]⟩, 0⟩, [], 100) := by
    unfold buildR
    rw [if_neg (by show ¬ data.size ≤ 262144; omega)]
  unfold BuildPost
  rw [hb]
  clear hb
  have i1 : (262144 : Int) < (data.size : Int) := by omega
  go_enter Tryd.func9, Tryd.ntmps9
  go_wp2_with fail
  refine bodyPost_ret (v := .tuple #[.agg #[.string ⟨#[]⟩, .int .i64 0], .slice none 0 0, .int .i64 100]) (by simp [results, Tryd.results9, go_sem]) rfl ⟨_, rfl, World.ownsRow_nil _ _ _ _, by (repeat (first | with_reducible exact Mod.refl _ _ | with_reducible apply Mod.drew | with_reducible apply Mod.drewN | with_reducible apply Mod.alloc | refine Mod.set1 ?_ (by first | exact rfl | simp) _ _))⟩
set_option maxRecDepth 100000 in
set_option maxHeartbeats 8000000 in
theorem build_short (data : ByteArray) (w : World) (hK : Hash.Keys w) (hd : data.size ≤ 262144) :
    Calls Tryd.prog 9 #[.string data] w (BuildPost data.data.toList w) := by
  have hlen : data.data.toList.length = data.size := by simp
  have hbR : buildR data.data.toList = ((buildL data.data.toList).1, (buildL data.data.toList).2, 0) := by unfold buildR; rw [if_pos (by omega)]
  unfold BuildPost
  rw [hbR]
  have hcut := fun w' => Gear.cuts_calls data w' (by omega)
  unfold Gear.IntsPost at hcut
  have hg := cutsL_good data.data.toList
  have hcl := Gear.cuts_len data.data.toList 0 0 0 (by omega)
  have hmm := @run_makeMap Tryd.prog
  have hcL : cutsL data.data.toList = if (Gear.cuts data.data.toList 0 0 0).isEmpty then [0] else Gear.cuts data.data.toList 0 0 0 := rfl
  obtain ⟨cs, hcs⟩ : ∃ cs, cutsL data.data.toList = cs := ⟨_, rfl⟩
  rw [hlen, hcs] at hg
  rw [hcs] at hcL
  rw [hlen] at hcl
  have hbL : buildL data.data.toList = ((levelsL 20 1 ((pieces data.data.toList 0 cs).map chunkPart)).1.headD ⟨⟨#[]⟩, 0⟩, keptL ((pieces data.data.toList 0 cs).map chunkOb ++ (levelsL 20 1 ((pieces data.data.toList 0 cs).map chunkPart)).2)) := by
    unfold buildL; rw [hcs]
  have hfo := fun h => first_ok (data := data.data.toList) (by omega) h
  rw [hcs] at hfo
  generalize Gear.cuts data.data.toList 0 0 0 = gc at *
  generalize buildL data.data.toList = BL at *
  have HCUT := Lib.hid hcut
  have HBL := Lib.hid hbL
  have HG := Lib.hid hg
  have HFO := Lib.hid hfo
  have HCL := Lib.hid hcL
  have HK := Lib.hid hK
  have i1 : ¬ (262144 : Int) < (data.size : Int) := by omega
  clear hcut hbL hg hfo hbR hcs hcL hK hlen
  go_enter Tryd.func9, Tryd.ntmps9
  go_wp2_with fail
  refine (HCUT.out _).mono ?_
  rintro e w2 ⟨v, rfl, ho, hm⟩
  have hM1 : Mod (fun _ => False) w (((w.alloc (.cells #[.string ⟨#[]⟩, .int .i64 0] 25)).alloc (.map #[] 0)).alloc (.cells #[.slice none 0 0, .map (some (w.heap.size + 1))] 56)) := (((Mod.refl _ _).alloc _).alloc _).alloc _
  have hb0 : Has (((w.alloc (.cells #[.string ⟨#[]⟩, .int .i64 0] 25)).alloc (.map #[] 0)).alloc (.cells #[.slice none 0 0, .map (some (w.heap.size + 1))] 56)) w.heap.size [.string ⟨#[]⟩, .int .i64 0] 25 := ((Has.new w _ _).alloc _).alloc _
  have hbm : Has (((w.alloc (.cells #[.string ⟨#[]⟩, .int .i64 0] 25)).alloc (.map #[] 0)).alloc (.cells #[.slice none 0 0, .map (some (w.heap.size + 1))] 56)) (w.heap.size + 1 + 1) [.slice none 0 0, .map (some (w.heap.size + 1))] 56 := Has.lit (by simp)
  have hmp : (((w.alloc (.cells #[.string ⟨#[]⟩, .int .i64 0] 25)).alloc (.map #[] 0)).alloc (.cells #[.slice none 0 0, .map (some (w.heap.size + 1))] 56)).ownsMap Tryd.prog 9 (plainElem (H := Unit) Tryd.prog 3) (w.heap.size + 1) 0 (.map []) := by
    have h := World.ownsMap_made (H := Unit) (w.alloc (.cells #[.string ⟨#[]⟩, .int .i64 0] 25)) Tryd.prog 9 (plainElem Tryd.prog 3)
    rw [size_alloc] at h
    exact h.alloc _
  have hmk : MkIs (w.heap.size + 1) (w.heap.size + 1 + 1) (w.heap.size + 1) (.slice none 0 0) 0 (.map []) [] _ := ⟨hbm, World.ownsRow_nil _ _ _ _, hmp, Met.nil, by omega⟩
  have hmk2 := hmk.keep hm (fun h => h) (fun h => h) (fun _ _ h => h)
  have hb2 := hb0.keep hm (fun h => h)
  have hM2 := Mod.trans hM1 hm (fun _ _ h => h)
  obtain ⟨Ac, cc, rfl, _, hcl2, _, _⟩ := own_cells ho
  have hrow2 : ∀ ad, Ac = some ad → 0 < gc.length → ∃ cur fr, w2.heap[ad.block]? = some (.cells cur 3 fr) := fun ad ha hp => by
    subst ha
    obtain ⟨g, cap, cs', hv, _, _, hh, _⟩ := own_has ho hp
    injection hv with hv
    injection hv with hv
    subst hv
    exact ⟨_, _, hh⟩
  by_cases hz0 : gc.length = 0
  · obtain rfl : gc = [] := List.eq_nil_of_length_eq_zero hz0
    clear hz0
    have hcs0 : cs = [0] := HCL.out
    have HB0 : Hid (BuIs data w (w.heap.size + 1 + 1) (w.heap.size + 1) (some ⟨w2.heap.size, 0, none⟩) cs 0 0 (.slice none 0 0) (w2.alloc (.cells #[.int .i64 0] 3))) := Lib.hid ⟨⟨[], _, _, rfl, rfl, World.ownsRow_nil _ _ _ _, hmk2.keep (Mod.alloc (Mod.refl (fun _ => False) _) _) (fun h => h) (fun h => h) (fun _ _ h => h), by simp⟩,
      HG.out.1, by omega, by rw [hcs0]; exact cells_lit rfl, fun ad ha => by injection ha with ha; rw [← ha]; exact ⟨_, _, Has.new w2 [.int .i64 0] 3⟩, hb2.alloc _, hM2.alloc _⟩
    have hcb : cs.length ≤ 300000 := by rw [hcs0]; simp
    have hce : (cs.length : Int) = 1 := by rw [hcs0]; rfl
    have HCE := Lib.hid hce
    clear hce
    clear hM1 hb0 hbm hmp hmk hmk2 hb2 hM2 hcl2 hrow2 ho hm hcs0
    go_wp2_with fail
    go_loopw [7, 8, 29] (fun out av i wr => ∃ (k : Nat) (a : Int), i = .int .i64 k ∧ av = .int .i64 a ∧ k ≤ cs.length ∧ Hid (BuIs data w (w.heap.size + 1 + 1) (w.heap.size + 1) (some ⟨w2.heap.size, 0, none⟩) cs k a out wr)) (fun _ _ i _ => cs.length - (intOf i).toNat)
    case atStart => exact ⟨0, 0, by go_num, rfl, by omega, HB0⟩
    case round =>
      obtain ⟨k, a, rfl, rfl, hk, HX⟩ := hrel
      by_cases hlt : k < cs.length
      · have i2 : (k : Int) < (cs.length : Int) := by omega
        have i3 : (0 : Int) ≤ (k : Int) := by omega
        have i4 : (k : Int) < (1 : Int) := by have := HCE.out; omega
        have hL : data.data.toList.length = data.size := by simp
        obtain ⟨done, vv, D, hdl, hpe, hown, hmk, hkl⟩ := HX.out.ex
        have hgd := HX.out.good
        have ha0 := HX.out.pos
        rw [List.drop_eq_getElem_cons hlt] at hgd hpe
        obtain ⟨g1, g2, g3, g4⟩ := hgd
        simp only [pieces] at hpe
        have x0 : wr.cell? ⟨w2.heap.size, 0 + k, none⟩ = some (.int .i64 cs[k]) := by
          rcases HX.out.cells with h | ⟨b, o, hb, hc⟩
          · have : cs = [] := by simpa using h
            subst this; simp at hlt
          · injection hb with hb
            injection hb with hb1 hb2
            rw [hb1, hb2]
            exact hc k _ (by simp [hlt])
        try simp only [Nat.zero_add] at x0
        obtain ⟨c, hc⟩ : ∃ c, cs[k] = c := ⟨_, rfl⟩
        rw [hc] at g1 g2 g3 g4 hpe x0
        have hpl := some_len (l := data.data.toList) (a := a) (c := c) ha0 (by omega) (by rw [hL]; exact g3)
        have hsl := run_some data a c ha0 (by omega) g3
        have hwr : IntKind.i64.wrap (c - a) = c - a := by rw [IntKind.wrap_i64]; omega
        obtain ⟨PC, hPC⟩ : ∃ PC, some_ data.data.toList a c = PC := ⟨_, rfl⟩
        rw [hPC] at hpl hpe hsl
        have hsz : (⟨PC.toArray⟩ : ByteArray).size = PC.length := by simp [ByteArray.size]
        have hch := fun w1 (mm : Mod (fun _ => False) w w1) => chunk_calls ⟨PC.toArray⟩ w1 (HK.out.keep mm (fun h => h)) (by omega)
        have hdec : decide ((⟨PC.toArray⟩ : ByteArray).size ≤ 1024) = true := decide_eq_true (by omega)
        simp only [hdec, Bool.not_true, putV_f, show (⟨PC.toArray⟩ : ByteArray).data.toList = PC from rfl] at hch
        have hco : chunkOb PC = ⟨⟨(Hash.sha (chunkB PC)).toArray⟩, ⟨(chunkB PC).toArray⟩⟩ := rfl
        have hid := sha_size (chunkB PC)
        unfold shaS at hid
        have hcp : chunkPart PC = ⟨(chunkOb PC).id, c - a⟩ := by unfold chunkPart; rw [hpl]
        rw [hco] at hcp
        obtain ⟨ID, hID⟩ : ∃ ID : ByteArray, (⟨(Hash.sha (chunkB PC)).toArray⟩ : ByteArray) = ID := ⟨_, rfl⟩
        obtain ⟨BY, hBY⟩ : ∃ BY : ByteArray, (⟨(chunkB PC).toArray⟩ : ByteArray) = BY := ⟨_, rfl⟩
        simp only [hID, hBY] at hch hco hid hcp
        have HCH := Lib.hid hch
        have HPE := Lib.hid hpe
        have HOWN := Lib.hid hown
        have HMK := Lib.hid hmk
        have HCO := Lib.hid hco
        have HCP := Lib.hid hcp
        have HG4 := Lib.hid g4
        clear hch hpe hown hmk hco hcp g4 hc hPC hID hBY hdec hL
        go_wp2_with fail
        refine (HCH.out _ HX.out.mod).mono ?_
        rintro e w3 ⟨rfl, hm3⟩
        have hM4 := hm3.alloc (.cells #[.string ID, .string BY] 60)
        have hb4 := Has.new w3 [.string ID, .string BY] 60
        obtain ⟨w4, hw4⟩ : ∃ w4, w3.alloc (.cells #[.string ID, .string BY] 60) = w4 := ⟨_, rfl⟩
        rw [hw4] at hM4 hb4
        have y0 := hb4.cell (o := 0) rfl
        have y1 := hb4.cell (o := 1) rfl
        rw [← hw4] at y0 y1
        have hmk4 := HMK.out.keep hM4 (fun h => h) (fun h => h) (fun _ _ h => h)
        have HKP := Lib.hid (keep_calls ⟨ID, BY⟩ hmk4 (by show ID.size ≤ 1000; omega) (by omega) (by omega))
        have HZ3 := Lib.hid hm3.size
        have HB4 := Lib.hid hb4
        have HM4 := Lib.hid hM4
        have HMK4 := Lib.hid hmk4
        have HW4 := Lib.hid hw4
        clear hm3 hM4 hb4 hmk4 hw4
        go_wp2_with fail
        rw [HW4.out]
        refine HKP.out.mono ?_
        rintro e w5 ⟨rfl, ⟨vv5, D5, hmk5⟩, hm5⟩
        have hb5 := HB4.out.keep hm5 (HMK.out.newer HZ3.out)
        have z0 := hb5.cell (o := 0) rfl
        have hown4 := own_keep HOWN.out HM4.out (fun _ _ _ h => h)
        have hown5 := own_keep hown4 hm5 (fun k _ hk => HMK4.out.apart (own_row hown4 hk))
        have hM5 := Mod.trans (Mod.trans HX.out.mod HM4.out (fun _ _ h => h)) hm5 (fun i hi h => by have := HMK4.out.base h; omega)
        have hrow4 := fun ad ha => row_keep (HX.out.row ad ha) HM4.out (fun h => h)
        have hrow5 := fun ad ha => row_keep (hrow4 ad ha) hm5 (HMK4.out.apartI (hrow4 ad ha))
        have hcl5 := (HX.out.cells.keep HM4.out (fun _ _ h => h)).keep hm5 (fun ad ha => HMK4.out.apartI (hrow4 ad ha))
        have hbx5 := (HX.out.box.keep HM4.out (fun h => h)).keep hm5 (HMK4.out.apart ⟨_, _, HX.out.box.keep HM4.out (fun h => h)⟩)
        have hbw : w.heap.size + 1 ≤ w5.heap.size := hbx5.lt
        have HOWN5 := Lib.hid hown5
        have HM5 := Lib.hid hM5
        have HROW5 := Lib.hid hrow5
        have HCL5 := Lib.hid hcl5
        have HBX5 := Lib.hid hbx5
        have HMK5 := Lib.hid hmk5
        have hnew := cells_new w5 [.string ID, .int .i64 (c - a)] 25
        clear hb5 hown4 hown5 hM5 hrow4 hrow5 hcl5 hbx5 hmk5 hm5 y0 y1 HKP HB4
        go_wp2_with (first
          | (at_builtin
             go_must (refine app (.tmp 44) (.tmp 51) part_t (w.heap.size + 1) u7 k ((done.map chunkPart).flatMap pc) (HOWN5.out.alloc _) ⟨w5.heap.size, 0, none⟩ 1 1 [.string ID, .int .i64 (c - a)] rfl rfl rfl rfl rfl hnew (by intro u hu; simp at hu; rcases hu with rfl | rfl <;> rfl) (by omega) (by unfold maxLen; omega) (by simp; omega) ?_; intro v7 w7 ho7 hm7)
             have HO7 := Lib.hid ho7
             have HM7 := Lib.hid (Mod.trans ((Mod.refl (fun k => w.heap.size + 1 ≤ k ∧ u7.ownBlock = some k) w5).alloc (.cells #[.string ID, .int .i64 (c - a)] 25)) hm7 (fun _ _ h => h))
             clear ho7 hm7))
        have hap : ∀ kk, (w.heap.size + 1 ≤ kk ∧ u7.ownBlock = some kk) → ¬ (kk = w.heap.size + 1 + 1 ∨ kk = w.heap.size + 1 ∨ vv5.ownBlock = some kk) := fun kk h => HMK5.out.apart (own_row HOWN5.out h.2)
        have hapI : ∀ ad : Addr, some (⟨w2.heap.size, 0, none⟩ : Addr) = some ad → ¬ (w.heap.size + 1 ≤ ad.block ∧ u7.ownBlock = some ad.block) := fun ad ha h => by
          obtain ⟨cur, fr, h1⟩ := HROW5.out ad ha
          obtain ⟨cur', fr', h2⟩ := own_row HOWN5.out h.2
          rw [h1] at h2
          injection h2 with h2
          injection h2 with _ h2
          exact absurd h2 (by decide)
        have hmk7 := HMK5.out.keep HM7.out (fun h => hap _ h (.inl rfl)) (fun h => hap _ h (.inr (.inl rfl))) (fun kk hk h => hap _ h (.inr (.inr hk)))
        have hnx : BuIs data w (w.heap.size + 1 + 1) (w.heap.size + 1) (some ⟨w2.heap.size, 0, none⟩) cs (k + 1) c v7 w7 := by
          refine ⟨⟨done ++ [PC], vv5, D5, by simp [hdl], by rw [HPE.out]; simp, ?_, ?_, ?_⟩, HG4.out, by omega, HCL5.out.keep HM7.out hapI, fun ad ha => row_keep (HROW5.out ad ha) HM7.out (hapI ad ha), HBX5.out.keep HM7.out (fun h => by have := h.1; omega), Mod.trans HM5.out HM7.out (fun i hi h => by have := h.1; omega)⟩
          · rw [List.map_append, List.flatMap_append]
            simp only [List.map_cons, List.map_nil, HCP.out]
            exact HO7.out
          · rw [List.map_append, List.foldl_append]
            simp only [List.map_cons, List.map_nil, HCO.out, List.foldl_cons, List.foldl_nil]
            exact hmk7
          · rw [List.map_append, List.foldl_append]
            simp only [List.map_cons, List.map_nil, List.foldl_cons, List.foldl_nil]
            have := keepL_len ((done.map chunkOb).foldl keepL []) (chunkOb PC)
            omega
        have HNX := Lib.hid hnx
        clear hap hapI hmk7 hnx
        go_roundw
        case rel => exact ⟨k + 1, c, by go_num, rfl, by omega, HNX⟩
        case measure => simp [intOf]; omega
      · have hkl : k = cs.length := by omega
        have i4 : ¬ (k : Int) < (1 : Int) := by have := HCE.out; omega
        obtain ⟨done, vv, D, hdl, hpe, hown, hmk, hkn⟩ := HX.out.ex
        rw [hkl, List.drop_length] at hpe
        simp only [pieces, List.append_nil] at hpe
        obtain ⟨A1, c1, he1, _, _, _, _⟩ := own_cells hown
        have hdn : done.length = (done.map chunkPart).length := by simp
        have hfo := HFO.out
        have hbl := HBL.out
        rw [hpe] at hfo hbl
        have hcs0 := HG.out.2.1
        have hpos : 1 ≤ cs.length := List.length_pos_iff.2 hcs0
        have hL0 : LvIs w (w.heap.size + 1 + 1) (w.heap.size + 1) ((done.map chunkOb).foldl keepL []) (done.map chunkPart) 0 1 A1 c1 (done.map chunkPart) wr := by
          refine ⟨⟨vv, k, D, _, hmk, hkn, by rw [← hdn]; omega, rfl, rfl⟩, ?_, fun h => hfo (by rw [← hdn, hdl] at h; omega), by rw [← hdn, show (2 : Nat) ^ (20 - 0) = 1048576 from rfl]; omega, by rw [← hdn]; omega, by simp, HX.out.box, HX.out.mod⟩
          rw [← hdn, hdl, ← he1]; exact hown
        have hkg : 0 < w.heap.size := by
          obtain ⟨T, fr, h⟩ := HK.out
          exact (Array.getElem?_eq_some_iff.1 h).1
        have HKG := Lib.hid hkg
        have hst : u7 = .slice A1 (done.map chunkPart).length c1 := by rw [he1, ← hdn, hdl]
        have HL0 := Lib.hid hL0
        have HBLL := Lib.hid hbl
        obtain ⟨l0, hl0⟩ : ∃ l0, done.map chunkPart = l0 := ⟨_, rfl⟩
        obtain ⟨o0, ho0⟩ : ∃ o0, done.map chunkOb = o0 := ⟨_, rfl⟩
        rw [hl0] at hst HBLL
        rw [ho0] at HBLL
        simp only [hl0, ho0] at HL0
        subst hst
        clear hkg he1 hL0 hbl hfo hpe hown hmk hkn hdn hdl hl0 ho0 hcs0
        go_wp2_with fail
        go_loopw [7, 13] (fun s v wr => ∃ (i : Nat) (lv : Int) (A' : Option Addr) (c' : Nat) (r : List Part), s = .slice A' r.length c' ∧ v = .int .i64 lv ∧ i ≤ 20 ∧ 1 ≤ lv ∧ lv ≤ 21 ∧ Hid (LvIs w (w.heap.size + 1 + 1) (w.heap.size + 1) (o0.foldl keepL []) l0 i lv A' c' r wr)) (fun _ v _ => 22 - (intOf v).toNat)
        case atStart => exact ⟨0, 1, A1, c1, l0, rfl, rfl, by omega, by omega, by omega, HL0⟩
        case round =>
          obtain ⟨i, lv, A', c', r, rfl, rfl, hi, hlv1, hlv2, HL⟩ := hrel
          by_cases hr1 : 1 < r.length
          · have j1 : (1 : Int) < (r.length : Int) := by omega
            obtain ⟨vv, n, D, obs, hmk, hol, hnl, hf, hp⟩ := HL.out.ex
            have hpow := HL.out.pow
            have hi20 : i < 20 := by
              rcases Nat.lt_or_ge i 20 with h | h
              · exact h
              · have : i = 20 := by omega
                subst this
                simp at hpow; omega
            obtain ⟨m, hm⟩ : ∃ m, 20 - i = m + 1 := ⟨19 - i, by omega⟩
            rw [hm] at hf hp hpow
            have hlev := HL.out.lev
            obtain ⟨A2, c2, he, hcap, hcl, hadr, _⟩ := own_cells HL.out.own
            obtain ⟨rfl, rfl⟩ : A' = A2 ∧ c' = c2 := by simpa using he
            have hrw : ∀ a, A' = some a → ∃ cur fr, wr.heap[a.block]? = some (.cells cur 25 fr) := fun a ha => by
              subst ha
              rcases HL.out.own.2 with ⟨h, _⟩ | ⟨g, cap, cur, h, hg, hh, _⟩
              · cases h
              · injection h with h
                injection h with h
                rw [h]
                exact ⟨_, _, hh⟩
            have Hw2.heap.size := Lib.hid (above_calls lv A' c' r hmk (fun w' mm => (HK.out.keep HL.out.mod (fun h => h)).keep mm (fun h => by have := HKG.out; omega)) ⟨by omega, by omega⟩ (HL.out.ok hr1) hcl hadr hcap hrw (by omega) hol)
            have hgm := gr_many r []
            have hgp := gr_pos r [] (by intro e; rw [List.nil_append] at e; rw [e] at hr1; simp at hr1)
            have hnk := next_ok (level := lv) ⟨by omega, by omega⟩ (HL.out.ok hr1)
            have hbw : w.heap.size + 1 ≤ wr.heap.size := HL.out.box.lt
            have h2 : (2 : Nat) ^ (m + 1) = 2 * 2 ^ m := by rw [Nat.pow_succ, Nat.mul_comm]
            rw [h2] at hpow
            rw [List.length_nil] at hgm
            unfold levelsL at hf hp
            rw [if_neg (by omega)] at hf hp
            dsimp only at hf hp
            rw [List.foldl_append] at hf
            have HF := Lib.hid hf
            have HPP := Lib.hid hp
            have HNK := Lib.hid hnk
            have HNUM := Lib.hid (And.intro hpow (And.intro hgm (And.intro hgp (And.intro hnl (And.intro hm (And.intro hlev hbw))))))
            clear hf hp hnk hpow hgm hgp hm h2 hlev he hcap hcl hadr hrw hmk hol hnl hbw
            go_wp2_with fail
            refine Hw2.heap.size.out.mono ?_
            rintro e w3 ⟨v', vv', n', D', rfl, hown', hmk', hn', hol', hm'⟩
            obtain ⟨A3, c3, rfl, _, _, _, _⟩ := own_cells hown'
            have hnx : LvIs w (w.heap.size + 1 + 1) (w.heap.size + 1) (o0.foldl keepL []) l0 (i + 1) (lv + 1) A3 c3 ((gr [] r).map (fanPart lv)) w3 := by
              obtain ⟨hpow, hgm, hgp, hnl, hm, hlev, hbw⟩ := HNUM.out
              have hm2 : 20 - (i + 1) = m := by omega
              refine ⟨⟨vv', n', D', _, hmk', hol', by rw [List.length_map]; omega, by rw [hm2]; exact HF.out, by rw [hm2]; exact HPP.out⟩, by rw [List.length_map]; exact own_base hown' hbw, fun _ => HNK.out, by rw [List.length_map, hm2]; omega, by rw [List.length_map]; exact hgp, by rw [hlev]; omega,
                HL.out.box.keep hm' (fun h => by omega), Mod.trans HL.out.mod hm' (fun i hi h => by omega)⟩
            have HNX := Lib.hid hnx
            have hgl : ((gr [] r).map (fanPart lv)).length = (gr [] r).length := List.length_map _
            have HGL := Lib.hid hgl
            clear hown' hmk' hn' hol' hm' hnx hgl
            go_wp2_with fail
            go_roundw
            case rel => exact ⟨i + 1, lv + 1, A3, c3, _, by rw [HGL.out], rfl, by omega, by omega, by have := HL.out.lev; omega, HNX⟩
            case measure => simp [intOf]; omega
          · have j1 : ¬ (1 : Int) < (r.length : Int) := by omega
            have hr : r.length = 1 := by have := HL.out.one; omega
            obtain ⟨vv, n, D, obs, hmk, hol, hnl, hf, hp⟩ := HL.out.ex
            rw [levels_one (by omega)] at hf hp
            obtain ⟨p, rfl⟩ : ∃ p, r = [p] := by
              cases r with
              | nil => simp at hr
              | cons p r => cases r with
                | nil => exact ⟨p, rfl⟩
                | cons _ _ => simp at hr
            dsimp only [List.foldl_nil] at hf hp
            have hblL := HBLL.out
            rw [← hp] at hblL
            have hkt : keptL (o0 ++ (levelsL 20 1 l0).2) = obs := by unfold keptL; rw [List.foldl_append, ← hf]
            rw [hkt] at hblL
            obtain ⟨A9, c9, rfl, _, hcl9, _, _⟩ := own_cells hmk.own
            obtain ⟨A2, c2, he, _, hclr, _, _⟩ := own_cells HL.out.own
            obtain ⟨rfl, rfl⟩ : A' = A2 ∧ c' = c2 := by simpa using he
            rcases hclr with h | ⟨ba, bo, rfl, hcell⟩
            · cases h
            have y0 := hcell 0 (.string p.id) rfl
            have y1 := hcell 1 (.int .i64 p.size) rfl
            rw [Nat.add_zero] at y0
            have x0 := hmk.box.cell (o := 0) rfl
            have hbx := HL.out.box
            have q0 := hbx.cell (o := 0) rfl
            have q1 := hbx.cell (o := 1) rfl
            have r0 := hbx.frozen 0
            have r1 := hbx.frozen 1
            have hba : w.heap.size + 1 ≤ ba := (HL.out.own.lt ba rfl).1
            have hbl1 := World.block_lt_of_cell? wr _ y0
            have hbm1 := hmk.box.lt
            have fv0 := fun (w' : World) (mm : Mod (fun k => k = w.heap.size) wr.drew w') => (mm.cell (p := ⟨ba, bo, none⟩) hbl1 (by show ¬ ba = w.heap.size; omega)).trans y0
            have fv1 := fun (w' : World) (mm : Mod (fun k => k = w.heap.size) wr.drew w') => (mm.cell (p := ⟨ba, bo + 1, none⟩) hbl1 (by show ¬ ba = w.heap.size; omega)).trans y1
            have fv2 := fun (w' : World) (mm : Mod (fun k => k = w.heap.size) wr.drew w') => (mm.cell (p := ⟨w.heap.size + 1 + 1, 0, none⟩) hbm1 (by show ¬ w.heap.size + 1 + 1 = w.heap.size; omega)).trans x0
            have hm9 : Mod (fun k => k = w.heap.size) wr ((wr.drew.setCell ⟨w.heap.size, 0, none⟩ (.string p.id)).setCell ⟨w.heap.size, 1, none⟩ (.int .i64 p.size)) := (((Mod.refl (fun k => k = w.heap.size) wr).drew).setCell (p := ⟨w.heap.size, 0, none⟩) (.inl rfl) _).setCell (p := ⟨w.heap.size, 1, none⟩) (.inl rfl) _
            have hb9 := ((hbx.drew).set 0 (.string p.id)).set 1 (.int .i64 p.size)
            have z0 := (hbx.set 0 (.string p.id)).cell (o := 0) rfl
            have z1 := ((hbx.set 0 (.string p.id)).set 1 (.int .i64 p.size)).cell (o := 1) rfl
            have z2 := ((hbx.set 0 (.string p.id)).set 1 (.int .i64 p.size)).cell (o := 0) rfl
            have hmS : Mod (fun k => k = w.heap.size) wr.drew ((wr.drew.setCell ⟨w.heap.size, 0, none⟩ (.string p.id)).setCell ⟨w.heap.size, 1, none⟩ (.int .i64 p.size)) := ((Mod.refl (fun k => k = w.heap.size) wr.drew).setCell (p := ⟨w.heap.size, 0, none⟩) (.inl rfl) _).setCell (p := ⟨w.heap.size, 1, none⟩) (.inl rfl) _
            have HMS := Lib.hid hmS
            have hown9 := own_base (own_keep hmk.own hm9 (fun k hk _ h => by omega)) (Nat.le_succ w.heap.size)
            have hM9 := Mod.trans HL.out.mod hm9 (fun i hi h => by omega)
            have HO9 := Lib.hid hown9
            have HM9 := Lib.hid hM9
            have HB9 := Lib.hid hblL
            clear hmS hM9 hown9 hm9 hb9 hbx hcl9 hmk hf hp hkt hblL hcell he hr
            go_wp2_with fail
            refine region_mS (fun k => k = w.heap.size) (by kernel_rfl) ?_
            simp only [List.length_cons, List.length_nil, List.replicate]
            refine take0S (v := ?v1) (oi := ?o1) 0 ?hi1 (by kernel_rfl) (by kernel_rfl) (by kernel_rfl) ?hq1 ?hy1 ?_
            case hi1 => (simp only [List.getElem?_toArray, List.getElem?_cons_zero, List.getElem?_cons_succ]; rfl)
            case hq1 => exact fun _ _ _ h => h
            case hy1 => first | (refine ry_notS ?_; rfl) | (refine ry_runS (by rfl) (fun w' hw' => ?_); go_simp; try rfl)
            simp only [Act.put, List.setIfInBounds_toArray, List.set_cons_zero, List.set_cons_succ]
            refine take0S (v := ?v2) (oi := ?o2) 1 ?hi2 (by kernel_rfl) (by kernel_rfl) (by kernel_rfl) ?hq2 ?hy2 ?_
            case hi2 => (simp only [List.getElem?_toArray, List.getElem?_cons_zero, List.getElem?_cons_succ]; rfl)
            case hq2 => exact fun _ _ _ h => h
            case hy2 => first | (refine ry_notS ?_; rfl) | (refine ry_runS (by rfl) (fun w' hw' => ?_); go_simp; try rfl)
            simp only [Act.put, List.setIfInBounds_toArray, List.set_cons_zero, List.set_cons_succ]
            refine take0S (v := ?v3) (oi := ?o3) 2 ?hi3 (by kernel_rfl) (by kernel_rfl) (by kernel_rfl) ?hq3 ?hy3 ?_
            case hi3 => (simp only [List.getElem?_toArray, List.getElem?_cons_zero, List.getElem?_cons_succ]; rfl)
            case hq3 => exact fun _ _ _ h => h
            case hy3 => first | (refine ry_notS ?_; rfl) | (refine ry_runS (by rfl) (fun w' hw' => ?_); go_simp; try rfl)
            simp only [Act.put, List.setIfInBounds_toArray, List.set_cons_zero, List.set_cons_succ]
            refine take0S (v := ?v4) (oi := ?o4) 3 ?hi4 (by kernel_rfl) (by kernel_rfl) (by kernel_rfl) ?hq4 ?hy4 ?_
            case hi4 => (simp only [List.getElem?_toArray, List.getElem?_cons_zero, List.getElem?_cons_succ]; rfl)
            case hq4 => exact fun _ _ _ h => h
            case hy4 => first | (refine ry_notS ?_; rfl) | (refine ry_runS (by rfl) (fun w' hw' => ?_); go_simp; try rfl)
            simp only [Act.put, List.setIfInBounds_toArray, List.set_cons_zero, List.set_cons_succ]
            refine take0S (v := ?v5) (oi := ?o5) 4 ?hi5 (by kernel_rfl) (by kernel_rfl) (by kernel_rfl) ?hq5 ?hy5 ?_
            case hi5 => (simp only [List.getElem?_toArray, List.getElem?_cons_zero, List.getElem?_cons_succ]; rfl)
            case hq5 => exact fun _ _ _ h => h
            case hy5 => first | (refine ry_notS ?_; rfl) | (refine ry_runS (by rfl) (fun w' hw' => ?_); go_simp; try rfl)
            simp only [Act.put, List.setIfInBounds_toArray, List.set_cons_zero, List.set_cons_succ]
            refine take0S (v := ?v6) (oi := ?o6) 5 ?hi6 (by kernel_rfl) (by kernel_rfl) (by kernel_rfl) ?hq6 ?hy6 ?_
            case hi6 => (simp only [List.getElem?_toArray, List.getElem?_cons_zero, List.getElem?_cons_succ]; rfl)
            case hq6 => exact fun _ _ _ h => h
            case hy6 => first | (refine ry_notS ?_; rfl) | (refine ry_runS (by rfl) (fun w' hw' => ?_); go_simp; try rfl)
            simp only [Act.put, List.setIfInBounds_toArray, List.set_cons_zero, List.set_cons_succ]
            refine take0S (v := ?v7) (oi := ?o7) 6 ?hi7 (by kernel_rfl) (by kernel_rfl) (by kernel_rfl) ?hq7 ?hy7 ?_
            case hi7 => (simp only [List.getElem?_toArray, List.getElem?_cons_zero, List.getElem?_cons_succ]; rfl)
            case hq7 => exact fun _ _ _ h => h
            case hy7 => first | (refine ry_notS ?_; rfl) | (refine ry_runS (by rfl) (fun w' hw' => ?_); go_simp; try rfl)
            simp only [Act.put, List.setIfInBounds_toArray, List.set_cons_zero, List.set_cons_succ]
            refine step0S (o := ?o8) 7 (by kernel_rfl) ?hi8 ?hw8 ?_
            case hi8 => (simp only [List.getElem?_toArray, List.getElem?_cons_zero, List.getElem?_cons_succ]; rfl)
            case hw8 => rfl
            go_simp
            refine ⟨.inl HMS.out, ?_⟩
            refine take0S (v := ?v9) (oi := ?o9) 8 ?hi9 (by kernel_rfl) (by kernel_rfl) (by kernel_rfl) ?hq9 ?hy9 ?_
            case hi9 => (simp only [List.getElem?_toArray, List.getElem?_cons_zero, List.getElem?_cons_succ]; rfl)
            case hq9 => exact fun _ _ _ h => h
            case hy9 => first | (refine ry_notS ?_; rfl) | (refine ry_runS (by rfl) (fun w' hw' => ?_); go_simp; try rfl)
            simp only [Act.put, List.setIfInBounds_toArray, List.set_cons_zero, List.set_cons_succ]
            refine take0S (v := ?v10) (oi := ?o10) 9 ?hi10 (by kernel_rfl) (by kernel_rfl) (by kernel_rfl) ?hq10 ?hy10 ?_
            case hi10 => (simp only [List.getElem?_toArray, List.getElem?_cons_zero, List.getElem?_cons_succ]; rfl)
            case hq10 => exact fun _ _ _ h => h
            case hy10 => first | (refine ry_notS ?_; rfl) | (refine ry_runS (by rfl) (fun w' hw' => ?_); go_simp; try rfl)
            simp only [Act.put, List.setIfInBounds_toArray, List.set_cons_zero, List.set_cons_succ]
            refine wpAnyM_done (by kernel_rfl) ?_
            clear fv0 fv1 fv2 y0 y1 x0 q0 q1 r0 r1
            go_wp2_with fail
            refine bodyPost_ret (v := .tuple #[.agg #[.string p.id, .int .i64 p.size], .slice A9 obs.length c9, .int .i64 0]) (by simp [results, Tryd.results9, go_sem, z0, z1, z2]) rfl ⟨_, by rw [HB9.out]; rfl, by rw [HB9.out]; exact HO9.out, HM9.out⟩
  · have hcs0 : cs = gc := by
      have := HCL.out
      rw [if_neg (by intro h; exact hz0 (by simpa using h))] at this
      exact this
    have b1 : ((gc.length : Int) == 0) = false := beq_eq_false_iff_ne.2 (by omega)
    have i5 : ¬ (gc.length : Int) = 0 := by omega
    obtain ⟨ba, bo, rfl⟩ : ∃ ba bo, Ac = some ⟨ba, bo, none⟩ := by
      rcases hcl2 with h | ⟨ba, bo, h, _⟩
      · exact absurd (by simpa using h) (fun h : gc = [] => hz0 (by rw [h]; rfl))
      · exact ⟨ba, bo, h⟩
    have HB0 : Hid (BuIs data w (w.heap.size + 1 + 1) (w.heap.size + 1) (some ⟨ba, bo, none⟩) cs 0 0 (.slice none 0 0) w2) := Lib.hid ⟨⟨[], _, _, rfl, rfl, World.ownsRow_nil _ _ _ _, hmk2, by simp⟩,
      HG.out.1, by omega, by rw [hcs0]; exact hcl2, fun ad ha => hrow2 ad ha (by omega), hb2, hM2⟩
    clear hM1 hb0 hbm hmp hmk hmk2 hb2 hM2 hcl2 hrow2 ho hm
    have hcb : cs.length ≤ 300000 := by rw [hcs0]; omega
    have hce : (cs.length : Int) = (gc.length : Int) := by rw [hcs0]
    have HCE := Lib.hid hce
    clear hce hcs0 hz0
    go_wp2_with fail
    go_loopw [7, 8, 29] (fun out av i wr => ∃ (k : Nat) (a : Int), i = .int .i64 k ∧ av = .int .i64 a ∧ k ≤ cs.length ∧ Hid (BuIs data w (w.heap.size + 1 + 1) (w.heap.size + 1) (some ⟨ba, bo, none⟩) cs k a out wr)) (fun _ _ i _ => cs.length - (intOf i).toNat)
    case atStart => exact ⟨0, 0, by go_num, rfl, by omega, HB0⟩
    case round =>
      obtain ⟨k, a, rfl, rfl, hk, HX⟩ := hrel
      by_cases hlt : k < cs.length
      · have i2 : (k : Int) < (cs.length : Int) := by omega
        have i3 : (0 : Int) ≤ (k : Int) := by omega
        have i4 : (k : Int) < (gc.length : Int) := by have := HCE.out; omega
        have hL : data.data.toList.length = data.size := by simp
        obtain ⟨done, vv, D, hdl, hpe, hown, hmk, hkl⟩ := HX.out.ex
        have hgd := HX.out.good
        have ha0 := HX.out.pos
        rw [List.drop_eq_getElem_cons hlt] at hgd hpe
        obtain ⟨g1, g2, g3, g4⟩ := hgd
        simp only [pieces] at hpe
        have x0 : wr.cell? ⟨ba, bo + k, none⟩ = some (.int .i64 cs[k]) := by
          rcases HX.out.cells with h | ⟨b, o, hb, hc⟩
          · have : cs = [] := by simpa using h
            subst this; simp at hlt
          · injection hb with hb
            injection hb with hb1 hb2
            rw [hb1, hb2]
            exact hc k _ (by simp [hlt])
        try simp only [Nat.zero_add] at x0
        obtain ⟨c, hc⟩ : ∃ c, cs[k] = c := ⟨_, rfl⟩
        rw [hc] at g1 g2 g3 g4 hpe x0
        have hpl := some_len (l := data.data.toList) (a := a) (c := c) ha0 (by omega) (by rw [hL]; exact g3)
        have hsl := run_some data a c ha0 (by omega) g3
        have hwr : IntKind.i64.wrap (c - a) = c - a := by rw [IntKind.wrap_i64]; omega
        obtain ⟨PC, hPC⟩ : ∃ PC, some_ data.data.toList a c = PC := ⟨_, rfl⟩
        rw [hPC] at hpl hpe hsl
        have hsz : (⟨PC.toArray⟩ : ByteArray).size = PC.length := by simp [ByteArray.size]
        have hch := fun w1 (mm : Mod (fun _ => False) w w1) => chunk_calls ⟨PC.toArray⟩ w1 (HK.out.keep mm (fun h => h)) (by omega)
        have hdec : decide ((⟨PC.toArray⟩ : ByteArray).size ≤ 1024) = true := decide_eq_true (by omega)
        simp only [hdec, Bool.not_true, putV_f, show (⟨PC.toArray⟩ : ByteArray).data.toList = PC from rfl] at hch
        have hco : chunkOb PC = ⟨⟨(Hash.sha (chunkB PC)).toArray⟩, ⟨(chunkB PC).toArray⟩⟩ := rfl
        have hid := sha_size (chunkB PC)
        unfold shaS at hid
        have hcp : chunkPart PC = ⟨(chunkOb PC).id, c - a⟩ := by unfold chunkPart; rw [hpl]
        rw [hco] at hcp
        obtain ⟨ID, hID⟩ : ∃ ID : ByteArray, (⟨(Hash.sha (chunkB PC)).toArray⟩ : ByteArray) = ID := ⟨_, rfl⟩
        obtain ⟨BY, hBY⟩ : ∃ BY : ByteArray, (⟨(chunkB PC).toArray⟩ : ByteArray) = BY := ⟨_, rfl⟩
        simp only [hID, hBY] at hch hco hid hcp
        have HCH := Lib.hid hch
        have HPE := Lib.hid hpe
        have HOWN := Lib.hid hown
        have HMK := Lib.hid hmk
        have HCO := Lib.hid hco
        have HCP := Lib.hid hcp
        have HG4 := Lib.hid g4
        clear hch hpe hown hmk hco hcp g4 hc hPC hID hBY hdec hL
        go_wp2_with fail
        refine (HCH.out _ HX.out.mod).mono ?_
        rintro e w3 ⟨rfl, hm3⟩
        have hM4 := hm3.alloc (.cells #[.string ID, .string BY] 60)
        have hb4 := Has.new w3 [.string ID, .string BY] 60
        obtain ⟨w4, hw4⟩ : ∃ w4, w3.alloc (.cells #[.string ID, .string BY] 60) = w4 := ⟨_, rfl⟩
        rw [hw4] at hM4 hb4
        have y0 := hb4.cell (o := 0) rfl
        have y1 := hb4.cell (o := 1) rfl
        rw [← hw4] at y0 y1
        have hmk4 := HMK.out.keep hM4 (fun h => h) (fun h => h) (fun _ _ h => h)
        have HKP := Lib.hid (keep_calls ⟨ID, BY⟩ hmk4 (by show ID.size ≤ 1000; omega) (by omega) (by omega))
        have HZ3 := Lib.hid hm3.size
        have HB4 := Lib.hid hb4
        have HM4 := Lib.hid hM4
        have HMK4 := Lib.hid hmk4
        have HW4 := Lib.hid hw4
        clear hm3 hM4 hb4 hmk4 hw4
        go_wp2_with fail
        rw [HW4.out]
        refine HKP.out.mono ?_
        rintro e w5 ⟨rfl, ⟨vv5, D5, hmk5⟩, hm5⟩
        have hb5 := HB4.out.keep hm5 (HMK.out.newer HZ3.out)
        have z0 := hb5.cell (o := 0) rfl
        have hown4 := own_keep HOWN.out HM4.out (fun _ _ _ h => h)
        have hown5 := own_keep hown4 hm5 (fun k _ hk => HMK4.out.apart (own_row hown4 hk))
        have hM5 := Mod.trans (Mod.trans HX.out.mod HM4.out (fun _ _ h => h)) hm5 (fun i hi h => by have := HMK4.out.base h; omega)
        have hrow4 := fun ad ha => row_keep (HX.out.row ad ha) HM4.out (fun h => h)
        have hrow5 := fun ad ha => row_keep (hrow4 ad ha) hm5 (HMK4.out.apartI (hrow4 ad ha))
        have hcl5 := (HX.out.cells.keep HM4.out (fun _ _ h => h)).keep hm5 (fun ad ha => HMK4.out.apartI (hrow4 ad ha))
        have hbx5 := (HX.out.box.keep HM4.out (fun h => h)).keep hm5 (HMK4.out.apart ⟨_, _, HX.out.box.keep HM4.out (fun h => h)⟩)
        have hbw : w.heap.size + 1 ≤ w5.heap.size := hbx5.lt
        have HOWN5 := Lib.hid hown5
        have HM5 := Lib.hid hM5
        have HROW5 := Lib.hid hrow5
        have HCL5 := Lib.hid hcl5
        have HBX5 := Lib.hid hbx5
        have HMK5 := Lib.hid hmk5
        have hnew := cells_new w5 [.string ID, .int .i64 (c - a)] 25
        clear hb5 hown4 hown5 hM5 hrow4 hrow5 hcl5 hbx5 hmk5 hm5 y0 y1 HKP HB4
        go_wp2_with (first
          | (at_builtin
             go_must (refine app (.tmp 44) (.tmp 51) part_t (w.heap.size + 1) u7 k ((done.map chunkPart).flatMap pc) (HOWN5.out.alloc _) ⟨w5.heap.size, 0, none⟩ 1 1 [.string ID, .int .i64 (c - a)] rfl rfl rfl rfl rfl hnew (by intro u hu; simp at hu; rcases hu with rfl | rfl <;> rfl) (by omega) (by unfold maxLen; omega) (by simp; omega) ?_; intro v7 w7 ho7 hm7)
             have HO7 := Lib.hid ho7
             have HM7 := Lib.hid (Mod.trans ((Mod.refl (fun k => w.heap.size + 1 ≤ k ∧ u7.ownBlock = some k) w5).alloc (.cells #[.string ID, .int .i64 (c - a)] 25)) hm7 (fun _ _ h => h))
             clear ho7 hm7))
        have hap : ∀ kk, (w.heap.size + 1 ≤ kk ∧ u7.ownBlock = some kk) → ¬ (kk = w.heap.size + 1 + 1 ∨ kk = w.heap.size + 1 ∨ vv5.ownBlock = some kk) := fun kk h => HMK5.out.apart (own_row HOWN5.out h.2)
        have hapI : ∀ ad : Addr, some (⟨ba, bo, none⟩ : Addr) = some ad → ¬ (w.heap.size + 1 ≤ ad.block ∧ u7.ownBlock = some ad.block) := fun ad ha h => by
          obtain ⟨cur, fr, h1⟩ := HROW5.out ad ha
          obtain ⟨cur', fr', h2⟩ := own_row HOWN5.out h.2
          rw [h1] at h2
          injection h2 with h2
          injection h2 with _ h2
          exact absurd h2 (by decide)
        have hmk7 := HMK5.out.keep HM7.out (fun h => hap _ h (.inl rfl)) (fun h => hap _ h (.inr (.inl rfl))) (fun kk hk h => hap _ h (.inr (.inr hk)))
        have hnx : BuIs data w (w.heap.size + 1 + 1) (w.heap.size + 1) (some ⟨ba, bo, none⟩) cs (k + 1) c v7 w7 := by
          refine ⟨⟨done ++ [PC], vv5, D5, by simp [hdl], by rw [HPE.out]; simp, ?_, ?_, ?_⟩, HG4.out, by omega, HCL5.out.keep HM7.out hapI, fun ad ha => row_keep (HROW5.out ad ha) HM7.out (hapI ad ha), HBX5.out.keep HM7.out (fun h => by have := h.1; omega), Mod.trans HM5.out HM7.out (fun i hi h => by have := h.1; omega)⟩
          · rw [List.map_append, List.flatMap_append]
            simp only [List.map_cons, List.map_nil, HCP.out]
            exact HO7.out
          · rw [List.map_append, List.foldl_append]
            simp only [List.map_cons, List.map_nil, HCO.out, List.foldl_cons, List.foldl_nil]
            exact hmk7
          · rw [List.map_append, List.foldl_append]
            simp only [List.map_cons, List.map_nil, List.foldl_cons, List.foldl_nil]
            have := keepL_len ((done.map chunkOb).foldl keepL []) (chunkOb PC)
            omega
        have HNX := Lib.hid hnx
        clear hap hapI hmk7 hnx
        go_roundw
        case rel => exact ⟨k + 1, c, by go_num, rfl, by omega, HNX⟩
        case measure => simp [intOf]; omega
      · have hkl : k = cs.length := by omega
        have i4 : ¬ (k : Int) < (gc.length : Int) := by have := HCE.out; omega
        obtain ⟨done, vv, D, hdl, hpe, hown, hmk, hkn⟩ := HX.out.ex
        rw [hkl, List.drop_length] at hpe
        simp only [pieces, List.append_nil] at hpe
        obtain ⟨A1, c1, he1, _, _, _, _⟩ := own_cells hown
        have hdn : done.length = (done.map chunkPart).length := by simp
        have hfo := HFO.out
        have hbl := HBL.out
        rw [hpe] at hfo hbl
        have hcs0 := HG.out.2.1
        have hpos : 1 ≤ cs.length := List.length_pos_iff.2 hcs0
        have hL0 : LvIs w (w.heap.size + 1 + 1) (w.heap.size + 1) ((done.map chunkOb).foldl keepL []) (done.map chunkPart) 0 1 A1 c1 (done.map chunkPart) wr := by
          refine ⟨⟨vv, k, D, _, hmk, hkn, by rw [← hdn]; omega, rfl, rfl⟩, ?_, fun h => hfo (by rw [← hdn, hdl] at h; omega), by rw [← hdn, show (2 : Nat) ^ (20 - 0) = 1048576 from rfl]; omega, by rw [← hdn]; omega, by simp, HX.out.box, HX.out.mod⟩
          rw [← hdn, hdl, ← he1]; exact hown
        have hkg : 0 < w.heap.size := by
          obtain ⟨T, fr, h⟩ := HK.out
          exact (Array.getElem?_eq_some_iff.1 h).1
        have HKG := Lib.hid hkg
        have hst : u7 = .slice A1 (done.map chunkPart).length c1 := by rw [he1, ← hdn, hdl]
        have HL0 := Lib.hid hL0
        have HBLL := Lib.hid hbl
        obtain ⟨l0, hl0⟩ : ∃ l0, done.map chunkPart = l0 := ⟨_, rfl⟩
        obtain ⟨o0, ho0⟩ : ∃ o0, done.map chunkOb = o0 := ⟨_, rfl⟩
        rw [hl0] at hst HBLL
        rw [ho0] at HBLL
        simp only [hl0, ho0] at HL0
        subst hst
        clear hkg he1 hL0 hbl hfo hpe hown hmk hkn hdn hdl hl0 ho0 hcs0
        go_wp2_with fail
        go_loopw [7, 13] (fun s v wr => ∃ (i : Nat) (lv : Int) (A' : Option Addr) (c' : Nat) (r : List Part), s = .slice A' r.length c' ∧ v = .int .i64 lv ∧ i ≤ 20 ∧ 1 ≤ lv ∧ lv ≤ 21 ∧ Hid (LvIs w (w.heap.size + 1 + 1) (w.heap.size + 1) (o0.foldl keepL []) l0 i lv A' c' r wr)) (fun _ v _ => 22 - (intOf v).toNat)
        case atStart => exact ⟨0, 1, A1, c1, l0, rfl, rfl, by omega, by omega, by omega, HL0⟩
        case round =>
          obtain ⟨i, lv, A', c', r, rfl, rfl, hi, hlv1, hlv2, HL⟩ := hrel
          by_cases hr1 : 1 < r.length
          · have j1 : (1 : Int) < (r.length : Int) := by omega
            obtain ⟨vv, n, D, obs, hmk, hol, hnl, hf, hp⟩ := HL.out.ex
            have hpow := HL.out.pow
            have hi20 : i < 20 := by
              rcases Nat.lt_or_ge i 20 with h | h
              · exact h
              · have : i = 20 := by omega
                subst this
                simp at hpow; omega
            obtain ⟨m, hm⟩ : ∃ m, 20 - i = m + 1 := ⟨19 - i, by omega⟩
            rw [hm] at hf hp hpow
            have hlev := HL.out.lev
            obtain ⟨A2, c2, he, hcap, hcl, hadr, _⟩ := own_cells HL.out.own
            obtain ⟨rfl, rfl⟩ : A' = A2 ∧ c' = c2 := by simpa using he
            have hrw : ∀ a, A' = some a → ∃ cur fr, wr.heap[a.block]? = some (.cells cur 25 fr) := fun a ha => by
              subst ha
              rcases HL.out.own.2 with ⟨h, _⟩ | ⟨g, cap, cur, h, hg, hh, _⟩
              · cases h
              · injection h with h
                injection h with h
                rw [h]
                exact ⟨_, _, hh⟩
            have Hba := Lib.hid (above_calls lv A' c' r hmk (fun w' mm => (HK.out.keep HL.out.mod (fun h => h)).keep mm (fun h => by have := HKG.out; omega)) ⟨by omega, by omega⟩ (HL.out.ok hr1) hcl hadr hcap hrw (by omega) hol)
            have hgm := gr_many r []
            have hgp := gr_pos r [] (by intro e; rw [List.nil_append] at e; rw [e] at hr1; simp at hr1)
            have hnk := next_ok (level := lv) ⟨by omega, by omega⟩ (HL.out.ok hr1)
            have hbw : w.heap.size + 1 ≤ wr.heap.size := HL.out.box.lt
            have h2 : (2 : Nat) ^ (m + 1) = 2 * 2 ^ m := by rw [Nat.pow_succ, Nat.mul_comm]
            rw [h2] at hpow
            rw [List.length_nil] at hgm
            unfold levelsL at hf hp
            rw [if_neg (by omega)] at hf hp
            dsimp only at hf hp
            rw [List.foldl_append] at hf
            have HF := Lib.hid hf
            have HPP := Lib.hid hp
            have HNK := Lib.hid hnk
            have HNUM := Lib.hid (And.intro hpow (And.intro hgm (And.intro hgp (And.intro hnl (And.intro hm (And.intro hlev hbw))))))
            clear hf hp hnk hpow hgm hgp hm h2 hlev he hcap hcl hadr hrw hmk hol hnl hbw
            go_wp2_with fail
            refine Hba.out.mono ?_
            rintro e w3 ⟨v', vv', n', D', rfl, hown', hmk', hn', hol', hm'⟩
            obtain ⟨A3, c3, rfl, _, _, _, _⟩ := own_cells hown'
            have hnx : LvIs w (w.heap.size + 1 + 1) (w.heap.size + 1) (o0.foldl keepL []) l0 (i + 1) (lv + 1) A3 c3 ((gr [] r).map (fanPart lv)) w3 := by
              obtain ⟨hpow, hgm, hgp, hnl, hm, hlev, hbw⟩ := HNUM.out
              have hm2 : 20 - (i + 1) = m := by omega
              refine ⟨⟨vv', n', D', _, hmk', hol', by rw [List.length_map]; omega, by rw [hm2]; exact HF.out, by rw [hm2]; exact HPP.out⟩, by rw [List.length_map]; exact own_base hown' hbw, fun _ => HNK.out, by rw [List.length_map, hm2]; omega, by rw [List.length_map]; exact hgp, by rw [hlev]; omega,
                HL.out.box.keep hm' (fun h => by omega), Mod.trans HL.out.mod hm' (fun i hi h => by omega)⟩
            have HNX := Lib.hid hnx
            have hgl : ((gr [] r).map (fanPart lv)).length = (gr [] r).length := List.length_map _
            have HGL := Lib.hid hgl
            clear hown' hmk' hn' hol' hm' hnx hgl
            go_wp2_with fail
            go_roundw
            case rel => exact ⟨i + 1, lv + 1, A3, c3, _, by rw [HGL.out], rfl, by omega, by omega, by have := HL.out.lev; omega, HNX⟩
            case measure => simp [intOf]; omega
          · have j1 : ¬ (1 : Int) < (r.length : Int) := by omega
            have hr : r.length = 1 := by have := HL.out.one; omega
            obtain ⟨vv, n, D, obs, hmk, hol, hnl, hf, hp⟩ := HL.out.ex
            rw [levels_one (by omega)] at hf hp
            obtain ⟨p, rfl⟩ : ∃ p, r = [p] := by
              cases r with
              | nil => simp at hr
              | cons p r => cases r with
                | nil => exact ⟨p, rfl⟩
                | cons _ _ => simp at hr
            dsimp only [List.foldl_nil] at hf hp
            have hblL := HBLL.out
            rw [← hp] at hblL
            have hkt : keptL (o0 ++ (levelsL 20 1 l0).2) = obs := by unfold keptL; rw [List.foldl_append, ← hf]
            rw [hkt] at hblL
            obtain ⟨A9, c9, rfl, _, hcl9, _, _⟩ := own_cells hmk.own
            obtain ⟨A2, c2, he, _, hclr, _, _⟩ := own_cells HL.out.own
            obtain ⟨rfl, rfl⟩ : A' = A2 ∧ c' = c2 := by simpa using he
            rcases hclr with h | ⟨ba, bo, rfl, hcell⟩
            · cases h
            have y0 := hcell 0 (.string p.id) rfl
            have y1 := hcell 1 (.int .i64 p.size) rfl
            rw [Nat.add_zero] at y0
            have x0 := hmk.box.cell (o := 0) rfl
            have hbx := HL.out.box
            have q0 := hbx.cell (o := 0) rfl
            have q1 := hbx.cell (o := 1) rfl
            have r0 := hbx.frozen 0
            have r1 := hbx.frozen 1
            have hba : w.heap.size + 1 ≤ ba := (HL.out.own.lt ba rfl).1
            have hbl1 := World.block_lt_of_cell? wr _ y0
            have hbm1 := hmk.box.lt
            have fv0 := fun (w' : World) (mm : Mod (fun k => k = w.heap.size) wr.drew w') => (mm.cell (p := ⟨ba, bo, none⟩) hbl1 (by show ¬ ba = w.heap.size; omega)).trans y0
            have fv1 := fun (w' : World) (mm : Mod (fun k => k = w.heap.size) wr.drew w') => (mm.cell (p := ⟨ba, bo + 1, none⟩) hbl1 (by show ¬ ba = w.heap.size; omega)).trans y1
            have fv2 := fun (w' : World) (mm : Mod (fun k => k = w.heap.size) wr.drew w') => (mm.cell (p := ⟨w.heap.size + 1 + 1, 0, none⟩) hbm1 (by show ¬ w.heap.size + 1 + 1 = w.heap.size; omega)).trans x0
            have hm9 : Mod (fun k => k = w.heap.size) wr ((wr.drew.setCell ⟨w.heap.size, 0, none⟩ (.string p.id)).setCell ⟨w.heap.size, 1, none⟩ (.int .i64 p.size)) := (((Mod.refl (fun k => k = w.heap.size) wr).drew).setCell (p := ⟨w.heap.size, 0, none⟩) (.inl rfl) _).setCell (p := ⟨w.heap.size, 1, none⟩) (.inl rfl) _
            have hb9 := ((hbx.drew).set 0 (.string p.id)).set 1 (.int .i64 p.size)
            have z0 := (hbx.set 0 (.string p.id)).cell (o := 0) rfl
            have z1 := ((hbx.set 0 (.string p.id)).set 1 (.int .i64 p.size)).cell (o := 1) rfl
            have z2 := ((hbx.set 0 (.string p.id)).set 1 (.int .i64 p.size)).cell (o := 0) rfl
            have hmS : Mod (fun k => k = w.heap.size) wr.drew ((wr.drew.setCell ⟨w.heap.size, 0, none⟩ (.string p.id)).setCell ⟨w.heap.size, 1, none⟩ (.int .i64 p.size)) := ((Mod.refl (fun k => k = w.heap.size) wr.drew).setCell (p := ⟨w.heap.size, 0, none⟩) (.inl rfl) _).setCell (p := ⟨w.heap.size, 1, none⟩) (.inl rfl) _
            have HMS := Lib.hid hmS
            have hown9 := own_base (own_keep hmk.own hm9 (fun k hk _ h => by omega)) (Nat.le_succ w.heap.size)
            have hM9 := Mod.trans HL.out.mod hm9 (fun i hi h => by omega)
            have HO9 := Lib.hid hown9
            have HM9 := Lib.hid hM9
            have HB9 := Lib.hid hblL
            clear hmS hM9 hown9 hm9 hb9 hbx hcl9 hmk hf hp hkt hblL hcell he hr
            go_wp2_with fail
            refine region_mS (fun k => k = w.heap.size) (by kernel_rfl) ?_
            simp only [List.length_cons, List.length_nil, List.replicate]
            refine take0S (v := ?v11) (oi := ?o11) 0 ?hi11 (by kernel_rfl) (by kernel_rfl) (by kernel_rfl) ?hq11 ?hy11 ?_
            case hi11 => (simp only [List.getElem?_toArray, List.getElem?_cons_zero, List.getElem?_cons_succ]; rfl)
            case hq11 => exact fun _ _ _ h => h
            case hy11 => first | (refine ry_notS ?_; rfl) | (refine ry_runS (by rfl) (fun w' hw' => ?_); go_simp; try rfl)
            simp only [Act.put, List.setIfInBounds_toArray, List.set_cons_zero, List.set_cons_succ]
            refine take0S (v := ?v12) (oi := ?o12) 1 ?hi12 (by kernel_rfl) (by kernel_rfl) (by kernel_rfl) ?hq12 ?hy12 ?_
            case hi12 => (simp only [List.getElem?_toArray, List.getElem?_cons_zero, List.getElem?_cons_succ]; rfl)
            case hq12 => exact fun _ _ _ h => h
            case hy12 => first | (refine ry_notS ?_; rfl) | (refine ry_runS (by rfl) (fun w' hw' => ?_); go_simp; try rfl)
            simp only [Act.put, List.setIfInBounds_toArray, List.set_cons_zero, List.set_cons_succ]
            refine take0S (v := ?v13) (oi := ?o13) 2 ?hi13 (by kernel_rfl) (by kernel_rfl) (by kernel_rfl) ?hq13 ?hy13 ?_
            case hi13 => (simp only [List.getElem?_toArray, List.getElem?_cons_zero, List.getElem?_cons_succ]; rfl)
            case hq13 => exact fun _ _ _ h => h
            case hy13 => first | (refine ry_notS ?_; rfl) | (refine ry_runS (by rfl) (fun w' hw' => ?_); go_simp; try rfl)
            simp only [Act.put, List.setIfInBounds_toArray, List.set_cons_zero, List.set_cons_succ]
            refine take0S (v := ?v14) (oi := ?o14) 3 ?hi14 (by kernel_rfl) (by kernel_rfl) (by kernel_rfl) ?hq14 ?hy14 ?_
            case hi14 => (simp only [List.getElem?_toArray, List.getElem?_cons_zero, List.getElem?_cons_succ]; rfl)
            case hq14 => exact fun _ _ _ h => h
            case hy14 => first | (refine ry_notS ?_; rfl) | (refine ry_runS (by rfl) (fun w' hw' => ?_); go_simp; try rfl)
            simp only [Act.put, List.setIfInBounds_toArray, List.set_cons_zero, List.set_cons_succ]
            refine take0S (v := ?v15) (oi := ?o15) 4 ?hi15 (by kernel_rfl) (by kernel_rfl) (by kernel_rfl) ?hq15 ?hy15 ?_
            case hi15 => (simp only [List.getElem?_toArray, List.getElem?_cons_zero, List.getElem?_cons_succ]; rfl)
            case hq15 => exact fun _ _ _ h => h
            case hy15 => first | (refine ry_notS ?_; rfl) | (refine ry_runS (by rfl) (fun w' hw' => ?_); go_simp; try rfl)
            simp only [Act.put, List.setIfInBounds_toArray, List.set_cons_zero, List.set_cons_succ]
            refine take0S (v := ?v16) (oi := ?o16) 5 ?hi16 (by kernel_rfl) (by kernel_rfl) (by kernel_rfl) ?hq16 ?hy16 ?_
            case hi16 => (simp only [List.getElem?_toArray, List.getElem?_cons_zero, List.getElem?_cons_succ]; rfl)
            case hq16 => exact fun _ _ _ h => h
            case hy16 => first | (refine ry_notS ?_; rfl) | (refine ry_runS (by rfl) (fun w' hw' => ?_); go_simp; try rfl)
            simp only [Act.put, List.setIfInBounds_toArray, List.set_cons_zero, List.set_cons_succ]
            refine take0S (v := ?v17) (oi := ?o17) 6 ?hi17 (by kernel_rfl) (by kernel_rfl) (by kernel_rfl) ?hq17 ?hy17 ?_
            case hi17 => (simp only [List.getElem?_toArray, List.getElem?_cons_zero, List.getElem?_cons_succ]; rfl)
            case hq17 => exact fun _ _ _ h => h
            case hy17 => first | (refine ry_notS ?_; rfl) | (refine ry_runS (by rfl) (fun w' hw' => ?_); go_simp; try rfl)
            simp only [Act.put, List.setIfInBounds_toArray, List.set_cons_zero, List.set_cons_succ]
            refine step0S (o := ?o18) 7 (by kernel_rfl) ?hi18 ?hw18 ?_
            case hi18 => (simp only [List.getElem?_toArray, List.getElem?_cons_zero, List.getElem?_cons_succ]; rfl)
            case hw18 => rfl
            go_simp
            refine ⟨.inl HMS.out, ?_⟩
            refine take0S (v := ?v19) (oi := ?o19) 8 ?hi19 (by kernel_rfl) (by kernel_rfl) (by kernel_rfl) ?hq19 ?hy19 ?_
            case hi19 => (simp only [List.getElem?_toArray, List.getElem?_cons_zero, List.getElem?_cons_succ]; rfl)
            case hq19 => exact fun _ _ _ h => h
            case hy19 => first | (refine ry_notS ?_; rfl) | (refine ry_runS (by rfl) (fun w' hw' => ?_); go_simp; try rfl)
            simp only [Act.put, List.setIfInBounds_toArray, List.set_cons_zero, List.set_cons_succ]
            refine take0S (v := ?v20) (oi := ?o20) 9 ?hi20 (by kernel_rfl) (by kernel_rfl) (by kernel_rfl) ?hq20 ?hy20 ?_
            case hi20 => (simp only [List.getElem?_toArray, List.getElem?_cons_zero, List.getElem?_cons_succ]; rfl)
            case hq20 => exact fun _ _ _ h => h
            case hy20 => first | (refine ry_notS ?_; rfl) | (refine ry_runS (by rfl) (fun w' hw' => ?_); go_simp; try rfl)
            simp only [Act.put, List.setIfInBounds_toArray, List.set_cons_zero, List.set_cons_succ]
            refine wpAnyM_done (by kernel_rfl) ?_
            clear fv0 fv1 fv2 y0 y1 x0 q0 q1 r0 r1
            go_wp2_with fail
            refine bodyPost_ret (v := .tuple #[.agg #[.string p.id, .int .i64 p.size], .slice A9 obs.length c9, .int .i64 0]) (by simp [results, Tryd.results9, go_sem, z0, z1, z2]) rfl ⟨_, by rw [HB9.out]; rfl, by rw [HB9.out]; exact HO9.out, HM9.out⟩
theorem build_calls (data : ByteArray) (w : World) (hK : Hash.Keys w) (hs : data.size ≤ 1048576) :
    Calls Tryd.prog 9 #[.string data] w (BuildPost data.data.toList w) := by
  by_cases hd : data.size ≤ 262144
  · exact build_short data w hK hd
  · exact build_long data w hs (by omega)
end Blob
end Go.Proofs.YthgcjfpaekpeeaaDoor
