/- Joined texts: BlobD. -/
import Derived.Test.YthgcjfpaekpeeaaDoorJ23
import Derived.Test.YthgcjfpaekpeeaaDoorJ13
/- The walk of the maker's above: the next level. -/
namespace Go.Proofs.YthgcjfpaekpeeaaDoor
set_option linter.unusedVariables false
set_option linter.unusedSimpArgs false
open Go.RowKit K Wire Go.Maps
namespace Blob
open Go.Proofs.YthgcjfpaekpeeaaDoor.Obj

/-- a maker's blocks are no rows of parts -/
theorem MkIs.apart {B bm bq n : Nat} {v : Value} {D : DataW Unit} {l : List Ob} {w : World} (h : MkIs B bm bq v n D l w) {k : Nat} (hk : ∃ cur fr, w.heap[k]? = some (.cells cur 25 fr)) : ¬ (k = bm ∨ k = bq ∨ v.ownBlock = some k) := by
  rintro (rfl | rfl | hv)
  · exact has_ne h.box hk (by decide) rfl
  · obtain ⟨es, clock, hq, _⟩ := h.map
    obtain ⟨cur, fr, hk⟩ := hk
    rw [hq] at hk; cases hk
  · obtain ⟨cur, fr, ho⟩ := own_row h.own hv
    obtain ⟨cur', fr', hk⟩ := hk
    rw [ho] at hk
    injection hk with hk
    injection hk with _ hk
    exact absurd hk (by decide)
theorem MkIs.newer {B bm bq n : Nat} {v : Value} {D : DataW Unit} {l : List Ob} {w : World} (h : MkIs B bm bq v n D l w) {k : Nat} (hk : w.heap.size ≤ k) : ¬ (k = bm ∨ k = bq ∨ v.ownBlock = some k) := by
  rintro (rfl | rfl | hv)
  · have := h.box.lt; omega
  · have := h.map.lt; omega
  · have := (h.own.lt _ hv).2; omega
theorem MkIs.base {B bm bq n : Nat} {v : Value} {D : DataW Unit} {l : List Ob} {w : World} (h : MkIs B bm bq v n D l w) {k : Nat} (hk : k = bm ∨ k = bq ∨ v.ownBlock = some k) : B ≤ k := by
  rcases hk with rfl | rfl | hv
  · exact h.le.1
  · exact h.le.2
  · exact (h.own.lt _ hv).1
theorem row_keep {w w' : World} {S : Nat → Prop} {k T : Nat} (h : ∃ cur fr, w.heap[k]? = some (.cells cur T fr)) (m : Mod S w w') (hs : ¬ S k) : ∃ cur fr, w'.heap[k]? = some (.cells cur T fr) := by
  obtain ⟨cur, fr, h⟩ := h
  exact ⟨cur, fr, (m.block k (Array.getElem?_eq_some_iff.1 h).1 hs).trans h⟩
structure AbIs (B bm bq n : Nat) (obs : List Ob) (level : Int) (l : List Part) (w : World) (out : Value) (A : Option Addr) (c : Nat) (r : List Part) (wr : World) : Prop where
  ex : ∃ (done : List (List Part)) (vv : Value) (D : DataW Unit), gr [] l = done ++ gr [] r ∧ wr.ownsRow w.heap.size 25 2 out done.length ((done.map (fanPart level)).flatMap pc) ∧
    MkIs B bm bq vv (n + done.length) D ((done.map (fanOb level)).foldl keepL obs) wr ∧ done.length + r.length ≤ l.length ∧ ((done.map (fanOb level)).foldl keepL obs).length ≤ n + done.length
  cells : Cells wr A (r.flatMap pc)
  adr : Adr A c
  cap : r.length ≤ c
  row : ∀ a, A = some a → (∃ cur fr, wr.heap[a.block]? = some (.cells cur 25 fr)) ∧ a.block < w.heap.size
  ok : PartsOk r
  mod : Mod (fun k => B ≤ k) w wr
theorem keepL_len (l : List Ob) (o : Ob) : (keepL l o).length ≤ l.length + 1 := by unfold keepL; split <;> simp

set_option maxRecDepth 100000 in
set_option maxHeartbeats 8000000 in
theorem above_calls {B bm bq n : Nat} {vv : Value} {D : DataW Unit} {obs : List Ob} {w : World} (level : Int) (A : Option Addr) (c : Nat) (l : List Part)
    (h : MkIs B bm bq vv n D obs w) (hK : ∀ w', Mod (fun k => B ≤ k) w w' → Hash.Keys w') (hlv : 1 ≤ level ∧ level ≤ 20) (hl : PartsOk l)
    (hA : Cells w A (l.flatMap pc)) (hadr : Adr A c) (hc : l.length ≤ c) (hrow : ∀ a, A = some a → ∃ cur fr, w.heap[a.block]? = some (.cells cur 25 fr))
    (hn : n + l.length ≤ 900000) (ho : obs.length ≤ n) :
    Calls Tryd.prog 25 #[.pointer (some ⟨bm, 0, none⟩), .slice A l.length c, .int .i64 level] w fun e w' => ∃ v' vv' n' D', e = .returned v' ∧
      w'.ownsRow w.heap.size 25 2 v' (gr [] l).length (((gr [] l).map (fanPart level)).flatMap pc) ∧ MkIs B bm bq vv' n' D' (((gr [] l).map (fanOb level)).foldl keepL obs) w' ∧ n' = n + (gr [] l).length ∧
      (((gr [] l).map (fanOb level)).foldl keepL obs).length ≤ n' ∧ Mod (fun k => B ≤ k) w w' := by
  have hBw : B ≤ w.heap.size := Nat.le_of_lt (Nat.lt_of_le_of_lt h.le.1 h.box.lt)
  have h0 : AbIs B bm bq n obs level l w (.slice none 0 0) A c l w := ⟨⟨[], vv, D, rfl, World.ownsRow_nil _ _ _ _, h, by simp, by simpa using ho⟩, hA, hadr, hc, fun a ha => ⟨hrow a ha, by
    obtain ⟨cur, fr, hh⟩ := hrow a ha; exact (Array.getElem?_eq_some_iff.1 hh).1⟩, hl, Mod.refl _ _⟩
  have H0 := Lib.hid h0
  have HK := Lib.hid hK
  clear h0 hK h hl hA hadr hc hrow ho
  go_enter Tryd.func25, Tryd.ntmps25
  go_wp2_with fail
  go_loopw [1, 7] (fun s v wr => ∃ (A' : Option Addr) (c' : Nat) (r : List Part), s = .slice A' r.length c' ∧ Hid (AbIs B bm bq n obs level l w v A' c' r wr)) (fun s _ _ => (match s with | .slice _ k _ => k | _ => 0))
  case atStart => exact ⟨A, c, l, rfl, H0⟩
  case round =>
    obtain ⟨A', c', r, rfl, HX⟩ := hrel
    by_cases hr0 : r.length = 0
    · have hre : r = [] := List.eq_nil_of_length_eq_zero hr0
      subst hre
      clear hr0
      go_wp2_with fail
      obtain ⟨done, vv', D', hd, hown, hmk, hlen, hkl⟩ := HX.out.ex
      rw [show gr [] [] = [] from rfl, List.append_nil] at hd
      go_ret
      refine ⟨_, vv', _, D', rfl, ?_, ?_, rfl, ?_, HX.out.mod⟩ <;> rw [hd]
      · exact hown
      · exact hmk
      · exact hkl
    · have i1 : (0 : Int) < (r.length : Int) := by omega
      obtain ⟨done, vv', D', hd, hown, hmk, hlen, hkl⟩ := HX.out.ex
      have hgf := gr_first r [] (by intro e; exact hr0 (by have := congrArg List.length e; simpa using this))
      rw [List.nil_append, List.length_nil] at hgf
      have hgb := gN_bounds r 0
      have hsm := gr_small r [] (by simp)
      have HGR := group_calls A' c' r wr HX.out.cells (fun p hp => (HX.out.ok.one p hp).2) (by omega)
      obtain ⟨m, hm⟩ : ∃ m, gN 0 r = m := ⟨_, rfl⟩
      rw [hm] at hgf hgb HGR
      rw [hgf] at hd hsm
      have hm0 : 0 < m := hgb.2.2 (fun e => hr0 (by rw [e]; rfl))
      have hml : m ≤ r.length := by omega
      have hgl : (r.take m).length = m := by rw [List.length_take]; omega
      have hg32 := hsm _ (List.mem_cons_self ..)
      rw [hgl] at hg32
      have hpk := HX.out.ok.take m
      have hright := fan_right (level := level) hlv hpk.1.one hpk.1.sum (by rw [hgl]; exact hg32)
      obtain ⟨hs1, hcg⟩ := parts_to m HX.out.cells HX.out.adr hml HX.out.cap
      obtain ⟨A2, hs2, hcr, hadr2, hbl2⟩ := parts_from m HX.out.cells HX.out.adr hml HX.out.cap
      have hfl := fan_len (level := level) hlv hpk.1.one hpk.1.sum (by rw [hgl]; exact hg32.2)
      have hF := fun w1 (mm : Mod (fun _ => False) wr w1) => fan_calls level A' c' (r.take m) w1 (HK.out w1 (Mod.trans HX.out.mod mm (fun _ _ h => h.elim))) (hcg.keep mm (fun _ _ h => h)) (by omega) (by unfold In64; omega)
        (fun p hp => by have := hpk.1.one p hp; have := size_le (fun p hp => (hpk.1.one p hp).1) p hp; have := hpk.1.sum; unfold In64; omega) hfl
      have hfo := fanOb_of hright
      have hid := sha_size (fanB level (r.take m))
      simp only [hright, Bool.not_true, putV_f, hgl] at hF
      have hfp : fanPart level (r.take m) = ⟨(fanOb level (r.take m)).id, sizes (r.take m)⟩ := rfl
      rw [hfo] at hfp
      unfold shaS at hfo hid hfp
      obtain ⟨ID, hID⟩ : ∃ ID : ByteArray, (⟨(Hash.sha (fanB level (r.take m))).toArray⟩ : ByteArray) = ID := ⟨_, rfl⟩
      obtain ⟨BY, hBY⟩ : ∃ BY : ByteArray, (⟨(fanB level (r.take m)).toArray⟩ : ByteArray) = BY := ⟨_, rfl⟩
      simp only [hID, hBY] at hF hfo hid hfp
      have HF := Lib.hid hF
      have HG := Lib.hid HGR
      have HD := Lib.hid hd
      have HOWN := Lib.hid hown
      have HMK := Lib.hid hmk
      have HFO := Lib.hid hfo
      have HFP := Lib.hid hfp
      have HCG := Lib.hid hcg
      have HCR := Lib.hid hcr
      have HPK := Lib.hid hpk
      have HAD := Lib.hid hadr2
      have HBL := Lib.hid hbl2
      clear hF HGR hd hown hmk hfo hfp hcg hcr hpk hadr2 hbl2 hgf hsm hm hID hBY hfl hright
      go_wp2_with fail
      refine HG.out.mono ?_
      rintro e w1 ⟨rfl, hm1⟩
      have HM1 := Lib.hid hm1
      clear hm1
      go_wp2_with fail
      refine (HF.out _ HM1.out).mono ?_
      rintro e w2 ⟨rfl, hm2⟩
      have hM3 := (Mod.trans HM1.out hm2 (fun _ _ h => h)).alloc (.cells #[.string ID, .string BY] 60)
      have hb3 := Has.new w2 [.string ID, .string BY] 60
      have hz2 := Nat.le_trans HM1.out.size hm2.size
      obtain ⟨w3, hw3⟩ : ∃ w3, w2.alloc (.cells #[.string ID, .string BY] 60) = w3 := ⟨_, rfl⟩
      obtain ⟨b9, hb9⟩ : ∃ b9, w2.heap.size = b9 := ⟨_, rfl⟩
      rw [hw3] at hM3 hb3
      rw [hb9] at hb3 hz2
      have x0 := hb3.cell (o := 0) rfl
      have x1 := hb3.cell (o := 1) rfl
      have hmk3 := HMK.out.keep hM3 (fun h => h) (fun h => h) (fun _ _ h => h)
      have HKP := Lib.hid (keep_calls ⟨ID, BY⟩ hmk3 (by show ID.size ≤ 1000; omega) (by omega) (by omega))
      have HB3 := Lib.hid hb3
      have HM3 := Lib.hid hM3
      have HMK3 := Lib.hid hmk3
      have HW3 := Lib.hid hw3
      rw [← hw3, ← hb9] at x0 x1
      clear hm2 hM3 hb3 hmk3 hw3
      go_wp2_with fail
      rw [HW3.out]
      refine HKP.out.mono ?_
      rintro e w4 ⟨rfl, ⟨vv4, D4, hmk4⟩, hm4⟩
      have hb4 := HB3.out.keep hm4 (HMK.out.newer hz2)
      have y0 := hb4.cell (o := 0) rfl
      have hown3 := own_keep HOWN.out HM3.out (fun _ _ _ h => h)
      have hown4 := own_keep hown3 hm4 (fun k _ hk => HMK3.out.apart (own_row hown3 hk))
      have hrow3 := fun a ha => row_keep (HX.out.row a ha).1 HM3.out (fun h => h)
      have hrow4 := fun a ha => row_keep (hrow3 a ha) hm4 (HMK3.out.apart (hrow3 a ha))
      have hcg4 := (HCG.out.keep HM3.out (fun _ _ h => h)).keep hm4 (fun a ha => HMK3.out.apart (hrow3 a ha))
      have hcr4 := (HCR.out.keep HM3.out (fun _ _ h => h)).keep hm4 (fun a ha => by
        obtain ⟨a0, ha0, he⟩ := HBL.out a ha
        rw [← he]; exact HMK3.out.apart (hrow3 a0 ha0))
      have hM4 := Mod.trans (Mod.trans HX.out.mod HM3.out (fun _ _ h => h.elim)) (hm4.mono (S' := fun k => B ≤ k) fun _ _ h => HMK3.out.base h) (fun _ _ h => h)
      have hlo : ∀ a, A' = some a → a.block < w4.heap.size := fun a ha => Nat.lt_of_lt_of_le (HX.out.row a ha).2 hM4.size
      have hb5 := Has.new w4 [.string ID, .int .i64 0] 25
      have hcg5 := hcg4.alloc (.cells #[.string ID, .int .i64 0] 25)
      have hm5 := (Mod.refl (fun _ => False) w4).alloc (.cells #[.string ID, .int .i64 0] 25)
      obtain ⟨w5, hw5⟩ : ∃ w5, w4.alloc (.cells #[.string ID, .int .i64 0] 25) = w5 := ⟨_, rfl⟩
      rw [hw5] at hb5 hcg5 hm5
      have HB5 := Lib.hid hb5
      have HCG5 := Lib.hid hcg5
      have HM5 := Lib.hid hm5
      have HW5 := Lib.hid hw5
      have HOWN4 := Lib.hid hown4
      have HROW4 := Lib.hid hrow4
      have HCR4 := Lib.hid hcr4
      have HM4 := Lib.hid hM4
      have HLO := Lib.hid hlo
      have HMK4 := Lib.hid hmk4
      clear hb4 hown3 hown4 hrow3 hrow4 hcg4 hcr4 hM4 hlo hb5 hcg5 hm5 hw5 hmk4 hm4 x0 x1 HKP HB3 HG HF
      go_wp2_with fail
      rw [HW5.out]
      go_loopw [38] (fun i wq => ∃ j : Nat, i = .int .i64 j ∧ j ≤ m ∧ Hid (Has wq w4.heap.size [.string ID, .int .i64 (sizes ((r.take m).take j))] 25) ∧ Hid (Mod (fun k => k = w4.heap.size) w5 wq)) (fun i _ => m - (intOf i).toNat)
      case atStart => exact ⟨0, by go_num, Nat.zero_le _, Lib.hid (by simpa [sizes] using HB5.out), Lib.hid (Mod.refl _ _)⟩
      case round =>
        obtain ⟨j, rfl, hj, HBQ, HMQ⟩ := hrel
        by_cases hjlt : j < m
        · have j1 : (j : Int) < (m : Int) := by omega
          have j0 : (0 : Int) ≤ (j : Int) := by omega
          have hjl : j < (r.take m).length := by omega
          rcases HCG5.out.keep HMQ.out (fun a ha => Nat.ne_of_lt (HLO.out a ha)) with h | ⟨ba, o, rfl, hcell⟩
          · have := flat_len pc_len (r.take m); rw [h] at this; simp at this; omega
          have z0 := hcell _ _ (flat_get pc_len (r.take m) j 0 hjl (by omega))
          have z1 := hcell _ _ (flat_get pc_len (r.take m) j 1 hjl (by omega))
          rw [Nat.add_zero] at z0
          rw [← Nat.add_assoc] at z1
          have hst : sizes ((r.take m).take (j + 1)) = sizes ((r.take m).take j) + ((r.take m)[j]).size := by
            rw [List.take_succ_eq_append_getElem hjl, sizes_append]; simp [sizes]
          have hp1 := (HPK.out.1.take (j + 1)).1
          have hp0 := (HPK.out.1.take j).1
          have hs1' := hp1.sum
          have hs0' := sizes_nonneg hp0.one
          have hsp := (HPK.out.1.one _ (List.getElem_mem hjl)).1
          have q1 := HBQ.out.cell (o := 1) rfl
          have f1 := HBQ.out.frozen 1
          rw [hst] at hs1'
          have HST := Lib.hid hst
          have hlb := HBQ.out.lt
          obtain ⟨p, hp⟩ : ∃ p, (r.take m)[j] = p := ⟨_, rfl⟩
          rw [hp] at z0 z1 hs1' hsp HST
          obtain ⟨z, hz⟩ : ∃ z, sizes ((r.take m).take j) = z := ⟨_, rfl⟩
          rw [hz] at hs1' hs0' q1 HST HBQ
          have hzn : 0 ≤ z := by omega
          clear hcell hst hp hz hp1 hp0
          go_wp2_with fail
          go_roundw
          case rel => exact ⟨j + 1, by go_num, by omega, Lib.hid (by rw [HST.out]; exact (HBQ.out.set 1 _).alloc _), Lib.hid ((HMQ.out.setCell (p := ⟨w4.heap.size, 1, none⟩) (.inl rfl) _).alloc _)⟩
          case measure => simp [intOf]; omega
        · have hjm : j = m := by omega
          have j1 : ¬ (j : Int) < (m : Int) := by omega
          have hbq := HBQ.out
          rw [hjm, List.take_of_length_le (by omega : (r.take m).length ≤ m)] at hbq
          have hq0 := hbq.cell (o := 0) rfl
          have hq1 := hbq.cell (o := 1) rfl
          have hql := hbq.lt
          have hM45 : Mod (fun _ => False) w4 wr := Mod.trans HM5.out HMQ.out (fun i hi h => absurd h (Nat.ne_of_lt hi))
          have hownr := own_keep HOWN4.out hM45 (fun _ _ _ h => h)
          have hun : u7.ownBlock ≠ some w4.heap.size := fun e => absurd (HOWN4.out.lt _ e).2 (Nat.lt_irrefl _)
          have fv0 := fun (w' : World) (mm : Mod (fun k => u7.ownBlock = some k ∨ wr.heap.size ≤ k) wr.drew w') => (mm.cell (p := ⟨w4.heap.size, 0, none⟩) hql (by rintro (h | h) <;> first | exact hun h | exact absurd h (Nat.not_le.2 hql))).trans hq0
          have fv1 := fun (w' : World) (mm : Mod (fun k => u7.ownBlock = some k ∨ wr.heap.size ≤ k) wr.drew w') => (mm.cell (p := ⟨w4.heap.size, 1, none⟩) hql (by rintro (h | h) <;> first | exact hun h | exact absurd h (Nat.not_le.2 hql))).trans hq1
          obtain ⟨z, hz⟩ : ∃ z, sizes (r.take m) = z := ⟨_, rfl⟩
          rw [hz] at hq1 fv1
          have HFP2 := HFP
          rw [hz] at HFP2
          have hbw : w.heap.size ≤ wr.heap.size := Nat.le_trans HM4.out.size hM45.size
          have HOWNR := Lib.hid hownr
          have HM45 := Lib.hid hM45
          clear hbq hq0 hq1 hownr hM45 hz hun
          go_wp2_with fail
          refine region_mS (fun k => u7.ownBlock = some k ∨ wr.heap.size ≤ k) (by kernel_rfl) ?_
          simp only [List.length_cons, List.length_nil, List.replicate]
          refine take0S (v := ?v1) (oi := ?o1) 0 ?hi1 (by kernel_rfl) (by kernel_rfl) (by kernel_rfl) ?hq1 ?hy1 ?_
          case hi1 => (simp only [List.getElem?_toArray, List.getElem?_cons_zero, List.getElem?_cons_succ]; rfl)
          case hq1 => exact fun _ _ _ h => h
          case hy1 => first | (refine ry_notS ?_; rfl) | (refine ry_runS (by rfl) (fun w' hw' => ?_); go_simp; try rfl)
          simp only [Act.put, List.setIfInBounds_toArray, List.set_cons_zero, List.set_cons_succ]
          refine take0S (v := ?v2) (oi := ?o2) 1 ?hi2 (by kernel_rfl) (by kernel_rfl) (by kernel_rfl) ?hq2 ?hy2 ?_
          case hi2 => (simp only [List.getElem?_toArray, List.getElem?_cons_zero, List.getElem?_cons_succ]; rfl)
          case hq2 => exact fun _ _ _ h => h
          case hy2 => first | (refine ry_notS ?_; rfl) | (refine ry_runS (by rfl) (fun w' hw' => ?_); go_simp; try rfl)
          simp only [Act.put, List.setIfInBounds_toArray, List.set_cons_zero, List.set_cons_succ]
          refine take0S (v := ?v3) (oi := ?o3) 4 ?hi3 (by kernel_rfl) (by kernel_rfl) (by kernel_rfl) ?hq3 ?hy3 ?_
          case hi3 => (simp only [List.getElem?_toArray, List.getElem?_cons_zero, List.getElem?_cons_succ]; rfl)
          case hq3 => exact fun _ _ _ h => h
          case hy3 => first | (refine ry_notS ?_; rfl) | (refine ry_runS (by rfl) (fun w' hw' => ?_); go_simp; try rfl)
          simp only [Act.put, List.setIfInBounds_toArray, List.set_cons_zero, List.set_cons_succ]
          refine take0S (v := ?v4) (oi := ?o4) 5 ?hi4 (by kernel_rfl) (by kernel_rfl) (by kernel_rfl) ?hq4 ?hy4 ?_
          case hi4 => (simp only [List.getElem?_toArray, List.getElem?_cons_zero, List.getElem?_cons_succ]; rfl)
          case hq4 => exact fun _ _ _ h => h
          case hy4 => first | (refine ry_notS ?_; rfl) | (refine ry_runS (by rfl) (fun w' hw' => ?_); go_simp; try rfl)
          simp only [Act.put, List.setIfInBounds_toArray, List.set_cons_zero, List.set_cons_succ]
          refine take0S (v := ?v5) (oi := ?o5) 6 ?hi5 (by kernel_rfl) (by kernel_rfl) (by kernel_rfl) ?hq5 ?hy5 ?_
          case hi5 => (simp only [List.getElem?_toArray, List.getElem?_cons_zero, List.getElem?_cons_succ]; rfl)
          case hq5 => exact fun _ _ _ h => h
          case hy5 => first | (refine ry_notS ?_; rfl) | (refine ry_runS (by rfl) (fun w' hw' => ?_); go_simp; try rfl)
          simp only [Act.put, List.setIfInBounds_toArray, List.set_cons_zero, List.set_cons_succ]
          refine step0S (o := ?o6) 2 (by kernel_rfl) ?hi6 ?hw6 ?_
          case hi6 => (simp only [List.getElem?_toArray, List.getElem?_cons_zero, List.getElem?_cons_succ]; rfl)
          case hw6 => rfl
          go_simp
          refine ⟨.inl (Mod.alloc (Mod.refl _ _) _), ?_⟩
          refine step0S (o := ?o7) 3 (by kernel_rfl) ?hi7 ?hw7 ?_
          case hi7 => (simp only [List.getElem?_toArray, List.getElem?_cons_zero, List.getElem?_cons_succ]; rfl)
          case hw7 => rfl
          refine app_step (.tmp 49) (.tmp 51) part_t w.heap.size u7 done.length _ ((own_keep HOWNR.out (Mod.drew (Mod.refl (fun _ => False) wr)) (fun _ _ _ h => h)).alloc _) ⟨wr.heap.size, 0, none⟩ 1 1 [.string ID, .int .i64 z] rfl rfl rfl rfl (cells_new wr.drew _ _) (by intro u hu; simp at hu; rcases hu with rfl | rfl <;> rfl) (by omega) (by unfold maxLen; omega) (by simp; omega) ?_
          intro v7 w7 ho7 hm7
          refine ⟨.inl (hm7.mono fun _ _ h => .inl h.2), ?_⟩
          have hM7 := Mod.trans ((Mod.refl (fun k => w.heap.size ≤ k ∧ u7.ownBlock = some k) wr).drew.alloc (.cells #[.string ID, .int .i64 z] 25)) hm7 (fun _ _ h => h)
          simp only [Act.put, List.setIfInBounds_toArray, List.set_cons_zero, List.set_cons_succ]
          refine take0S (v := ?v8) (oi := ?o8) 7 ?hi8 (by kernel_rfl) (by kernel_rfl) (by kernel_rfl) ?hq8 ?hy8 ?_
          case hi8 => (simp only [List.getElem?_toArray, List.getElem?_cons_zero, List.getElem?_cons_succ]; rfl)
          case hq8 => exact fun _ _ _ h => h
          case hy8 => first | (refine ry_notS ?_; rfl) | (refine ry_runS (by rfl) (fun w' hw' => ?_); go_simp; try rfl)
          simp only [Act.put, List.setIfInBounds_toArray, List.set_cons_zero, List.set_cons_succ]
          refine take0S (v := ?v9) (oi := ?o9) 8 ?hi9 (by kernel_rfl) (by kernel_rfl) (by kernel_rfl) ?hq9 ?hy9 ?_
          case hi9 => (simp only [List.getElem?_toArray, List.getElem?_cons_zero, List.getElem?_cons_succ]; rfl)
          case hq9 => exact fun _ _ _ h => h
          case hy9 => first | (refine ry_notS ?_; rfl) | (refine ry_runS (by rfl) (fun w' hw' => ?_); go_simp; try rfl)
          simp only [Act.put, List.setIfInBounds_toArray, List.set_cons_zero, List.set_cons_succ]
          refine wpAnyM_done (by kernel_rfl) ?_
          clear fv0 fv1
          have hM47 := Mod.trans (HM45.out.mono (S' := fun k => w.heap.size ≤ k ∧ u7.ownBlock = some k) fun _ _ h => h.elim) hM7 (fun _ _ h => h)
          have hap : ∀ k, (w.heap.size ≤ k ∧ u7.ownBlock = some k) → ¬ (k = bm ∨ k = bq ∨ vv4.ownBlock = some k) := fun k hk => HMK4.out.apart (own_row HOWN4.out hk.2)
          have hmk7 := HMK4.out.keep hM47 (fun h => hap _ h (.inl rfl)) (fun h => hap _ h (.inr (.inl rfl))) (fun k hk h => hap _ h (.inr (.inr hk)))
          have hcr7 := HCR4.out.keep hM47 (fun a ha h => by
            obtain ⟨a0, ha0, he⟩ := HBL.out a ha
            have := (HX.out.row a0 ha0).2
            rw [← he] at h
            have := h.1; omega)
          have hM9 := Mod.trans HM4.out (hM47.mono (S' := fun k => B ≤ k) fun _ _ h => Nat.le_trans hBw h.1) (fun _ _ h => h)
          have hnew : AbIs B bm bq n obs level l w v7 A2 (c' - m) (r.drop m) w7 := by
            refine ⟨⟨done ++ [r.take m], vv4, D4, ?_, ?_, ?_, ?_, ?_⟩, hcr7, HAD.out, by rw [List.length_drop]; have := HX.out.cap; omega, fun a ha => ?_, HPK.out.2, hM9⟩
            · rw [HD.out]; simp
            · rw [List.map_append, List.flatMap_append]
              simp only [List.map_cons, List.map_nil, HFP2.out, List.length_append, List.length_cons, List.length_nil]
              exact ho7
            · rw [List.map_append, List.foldl_append]
              simp only [List.map_cons, List.map_nil, HFO.out, List.length_append, List.length_cons, List.length_nil, List.foldl_cons, List.foldl_nil]
              exact hmk7
            · rw [List.length_drop, List.length_append, List.length_singleton]; omega
            · rw [List.map_append, List.foldl_append]
              simp only [List.map_cons, List.map_nil, List.length_append, List.length_cons, List.length_nil, List.foldl_cons, List.foldl_nil]
              have := keepL_len ((done.map (fanOb level)).foldl keepL obs) (fanOb level (r.take m))
              omega
            · obtain ⟨a0, ha0, he⟩ := HBL.out a ha
              rw [← he]
              have hr := HX.out.row a0 ha0
              exact ⟨row_keep (HROW4.out a0 ha0) hM47 (fun h => by have := h.1; omega), hr.2⟩
          have HNEW := Lib.hid hnew
          have hdl : (r.drop m).length = r.length - m := List.length_drop
          have HDL := Lib.hid hdl
          clear hM47 hap hmk7 hcr7 hM9 hnew hdl hM7 ho7 hm7
          go_roundw
          case rel =>
            iterate 49 (apply Exists.intro)
            exact And.symm ⟨rfl, A2, c' - m, r.drop m, by rw [HDL.out], HNEW⟩
          case measure => simp; omega
end Blob
end Go.Proofs.YthgcjfpaekpeeaaDoor
