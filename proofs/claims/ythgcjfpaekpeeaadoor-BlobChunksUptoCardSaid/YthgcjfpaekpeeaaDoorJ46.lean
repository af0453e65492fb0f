/- Joined texts: BlobCb. -/
import Derived.Test.YthgcjfpaekpeeaaDoorJ45
/- The walk of the asker's chunks: a level above the chunks. -/
namespace Go.Proofs.YthgcjfpaekpeeaaDoor
set_option linter.unusedVariables false
set_option linter.unusedSimpArgs false
open Go.RowKit K Wire Go.Maps
namespace Blob
open Go.Proofs.YthgcjfpaekpeeaaDoor.Obj

theorem own_q {w w' : World} {B base e size n : Nat} {v : Value} {xs : List Value} (h : w.ownsRow base e size v n xs) (m : Mod (Q B w) w w') (h0 : e ≠ 9) (h1 : e ≠ 32) : w'.ownsRow base e size v n xs :=
  own_keep h m (fun k _ hk => by
    obtain ⟨cur, fr, hr⟩ := own_row h hk
    rintro ⟨_, cur', fr', T, h2, h3⟩
    rw [hr] at h2
    injection h2 with h2
    injection h2 with _ h2
    subst h2
    rcases h3 with h3 | h3
    · exact h0 h3
    · exact h1 h3)
/-- what holds between two kids -/
structure CkL (G : Gt) (objs : List Ob) (B0 : Nat) (L : Int) (kids : List Part) (x0 : BS) (b11 Bk : Nat) (vk v : Value) (w : World) (j : Nat) (vj : Value) (wr : World) : Prop where
  bad : (chkF objs (L - 1).toNat (kids.take j) x0).bad = 0
  inv : G.I (chkF objs (L - 1).toNat (kids.take j) x0).asked wr
  own : wr.ownsRow B0 25 2 vj (chkF objs (L - 1).toNat (kids.take j) x0).parts.length ((chkF objs (L - 1).toNat (kids.take j) x0).parts.flatMap pc)
  rowof : RowOf w v vj
  mod : Mod (CS G.B v w) w wr
  box : Has wr b11 [.int .i64 L, vk] 96
  abox : Has wr w.heap.size [.func (.func G.ks) #[] G.caps] 71
  kown : wr.ownsRow Bk 25 2 vk kids.length (kids.flatMap pc)
  apart : ∀ g, vk.ownBlock = some g → vj.ownBlock ≠ some g

set_option maxRecDepth 100000 in
set_option maxHeartbeats 8000000 in
theorem chunks_step {G : Gt} {objs : List Ob} (ok : GtOk G objs) (hob : ObsOk objs) {B0 : Nat} (level : Int) (hlv : -1 ≤ level ∧ level ≤ 20) (hl0 : level ≠ 0)
    (IH : ∀ L : Int, 1 ≤ L → L ≤ 20 → (level < 0 ∨ L = level) → ∀ (p : Part) (x : BS) (v : Value) (w : World), CkPre G B0 (L - 1) p x v w →
      Calls Tryd.prog 37 #[.agg #[.func (.func G.ks) #[] G.caps], .agg #[.string p.id, .int .i64 p.size], .int .i64 (L - 1), v] w (CkPost G B0 v (chkS objs (L - 1).toNat p x) w))
    (p : Part) (x : BS) (v : Value) (w : World) (h : CkPre G B0 level p x v w) :
    Calls Tryd.prog 37 #[.agg #[.func (.func G.ks) #[] G.caps], .agg #[.string p.id, .int .i64 p.size], .int .i64 level, v] w (CkPost G B0 v (chkB objs level p x) w) := by
  have hna := cnums_ask h.nums hlv.1
  have hm2 := ((Mod.refl (fun _ => False) w).alloc (.cells #[.func (.func G.ks) #[] G.caps] 71)).alloc (.cells #[.string p.id, .int .i64 p.size] 25)
  have hab : Has ((w.alloc (.cells #[.func (.func G.ks) #[] G.caps] 71)).alloc (.cells #[.string p.id, .int .i64 p.size] 25)) w.heap.size [.func (.func G.ks) #[] G.caps] 71 := (Has.new w _ _).alloc _
  have hpb : Has ((w.alloc (.cells #[.func (.func G.ks) #[] G.caps] 71)).alloc (.cells #[.string p.id, .int .i64 p.size] 25)) (w.heap.size + 1) [.string p.id, .int .i64 p.size] 25 := Has.lit (by simp)
  have hp := h.keep ok hm2
  have x0 := hpb.cell (o := 0) rfl
  have x1 := hpb.cell (o := 1) rfl
  have y0 := hab.cell (o := 0) rfl
  have hBw := h.le
  have hbase := h.base
  have HND := Lib.hid (node_calls ok hob p level x.asked _ hp.inv (by omega) (by have := h.nums.1; have := h.nums.2.1; omega) hlv (by simp; omega))
  have b0 : (level == 0) = false := beq_eq_false_iff_ne.2 hl0
  obtain ⟨Y, hY⟩ : ∃ Y, chkB objs level p x = Y := ⟨_, rfl⟩
  rw [hY]
  rw [chkB_at h.bad] at hY
  have HY := Lib.hid hY
  have H0 := Lib.hid h
  have HP := Lib.hid hp
  have HM2 := Lib.hid hm2
  have HAB := Lib.hid hab
  have HPB := Lib.hid hpb
  have HIH := Lib.hid IH
  clear hY h hp hm2 hab hpb IH
  go_enter Tryd.func37, Tryd.ntmps37
  go_wp2_with fail
  unfold NodePost at HND
  obtain ⟨NN, hNN⟩ : ∃ NN, nodeOf objs p level = NN := ⟨_, rfl⟩
  have hy := HY.out
  rw [hNN] at hy
  simp only [hNN] at HND
  refine HND.out.mono ?_
  rintro e w5 ⟨vk, rfl, hv, hI5, hq5⟩
  obtain ⟨Ak, ck, rfl, _, _, _, _⟩ := own_cells hv
  have hm6 := (Mod.refl (fun _ => False) w5).alloc (.cells #[.int .i64 (ndL NN), .slice Ak (ndK NN).length ck] 96)
  have hb11 := Has.new w5 [.int .i64 (ndL NN), .slice Ak (ndK NN).length ck] 96
  have hab6 := (HAB.out.keep hq5 (Q.not HAB.out (by decide) (by decide))).keep hm6 (fun h => h)
  have hpb6 := (HPB.out.keep hq5 (Q.not HPB.out (by decide) (by decide))).keep hm6 (fun h => h)
  have hown6 := own_keep (own_q HP.out.own hq5 (by decide) (by decide)) hm6 (fun _ _ _ h => h)
  have hkown6 := own_keep hv hm6 (fun _ _ _ h => h)
  have hI6 := ok.keep _ _ _ _ hI5 hm6 (fun _ _ h => h)
  have hM6 : Mod (CS G.B v w) w (w5.alloc (.cells #[.int .i64 (ndL NN), .slice Ak (ndK NN).length ck] 96)) := ((Q.after HM2.out hq5).mono fun k _ hk => .inl (Ty.of_q (by decide) (by decide) k hk)).alloc _
  have hap6 : ∀ g, (Value.slice Ak (ndK NN).length ck).ownBlock = some g → v.ownBlock ≠ some g := fun g hg hvg => by
    have h1 := (hv.lt g hg).1
    have h2 := (H0.out.own.lt g hvg).2
    simp at h1; omega
  have hz5 : w.heap.size + 2 ≤ w5.heap.size := by have := hq5.size; simpa using this
  have z0 := hpb6.cell (o := 0) rfl
  have z1 := hpb6.cell (o := 1) rfl
  have c0 := hb11.cell (o := 0) rfl
  have c1 := hb11.cell (o := 1) rfl
  have a0 := hab6.cell (o := 0) rfl
  have HB11 := Lib.hid hb11
  have HAB6 := Lib.hid hab6
  have HPB6 := Lib.hid hpb6
  have HOWN6 := Lib.hid hown6
  have HKO6 := Lib.hid hkown6
  have HI6 := Lib.hid hI6
  have HM6 := Lib.hid hM6
  have HAP6 := Lib.hid hap6
  clear hm6 hb11 hab6 hpb6 hown6 hkown6 hI6 hM6 hap6 hq5 hI5 hv HND x0 x1 y0 HAB HPB HM2
  cases NN with
  | bad e =>
    have he := node_bad hNN
    have b1 : (e != 0) = true := by simpa using he
    dsimp only at hy
    subst hy
    simp only [show ndE (Node.bad e) = e from rfl]
    have HE := Lib.hid he
    clear he hNN
    go_wp2_with fail
    go_ret2
    unfold CkPost
    exact ⟨_, rfl, HI6.out, HM6.out, by rw [if_neg HE.out]; rfl⟩
  | chunk s =>
    dsimp only at hy
    subst hy
    simp only [show ndE (Node.chunk s) = 0 from rfl]
    simp only [show ndL (Node.chunk s) = 0 from rfl] at c0 c1 z0 z1 a0 HB11 HAB6 HPB6 HOWN6 HKO6 HI6 HM6 ⊢
    have hnp := H0.out.nums.2.2.2
    have hps := H0.out.nums.1
    clear hNN
    go_wp2_with (first
      | (at_builtin
         (refine appG (.tmp 35) (.tmp 37) part_t B0 v x.parts.length (x.parts.flatMap pc) (HOWN6.out.alloc _) (some ⟨w5.heap.size + 1, 0, none⟩) 1 1 [.string p.id, .int .i64 p.size] rfl rfl rfl (by simp [Act.eval]) rfl (cells_lit (by simp)) (by intro u hu; simp at hu; rcases hu with rfl | rfl <;> rfl) (by omega) (by unfold maxLen; omega) (by simp; omega) ?_; intro v7 w7 ho7 hm7 hr7)
         have HI7 := Lib.hid (ck_app ok (ok.keep _ _ _ _ HI6.out ((Mod.refl (fun _ => False) _).alloc (.cells #[.string p.id, .int .i64 p.size] 25)) (fun _ _ h => h)) (HOWN6.out.alloc (.cells #[.string p.id, .int .i64 p.size] 25)) hBw hm7)
         have HM7 := Lib.hid (Mod.trans (HM6.out.alloc (.cells #[.string p.id, .int .i64 p.size] 25)) hm7 (fun i _ hi => .inr hi))
         have HR7 : Hid (RowOf w v v7) := Lib.hid (rowOf_later hr7 (by simp; omega))
         have HO7 := Lib.hid ho7
         clear hm7 hr7 ho7))
    go_ret2
    unfold CkPost
    refine ⟨v7, by show _ = Ending.returned (Value.tuple #[v7, .int .i64 x.bad]); rw [H0.out.bad]; rfl, HI7.out, HM7.out, ?_⟩
    refine Eq.mpr (if_pos (by exact H0.out.bad)) ⟨?_, HR7.out⟩
    show w7.ownsRow B0 25 2 v7 (x.parts ++ [p]).length ((x.parts ++ [p]).flatMap pc)
    rw [List.length_append, List.flatMap_append]
    simpa [pc] using HO7.out
  | fan L kids =>
    have hfl := fan_level hNN
    dsimp only at hy
    simp only [show ndE (Node.fan L kids) = 0 from rfl]
    simp only [show ndL (Node.fan L kids) = L from rfl] at c0 c1 z0 z1 a0 HB11 HAB6 HPB6 HOWN6 HKO6 HI6 HM6 ⊢
    simp only [show ndK (Node.fan L kids) = kids from rfl] at c0 c1 z0 z1 a0 HB11 HAB6 HPB6 HOWN6 HKO6 HI6 HM6 HAP6 ⊢
    have hkl : kids.length ≤ 32 := hfl.2.2.2.2.1
    have b1 : (L == 0) = false := beq_eq_false_iff_ne.2 (by omega)
    have hL1 : 1 ≤ L := hfl.2.1
    have hL2 : L ≤ 20 := hfl.2.2.1
    have hw1 : IntKind.i64.wrap (L - 1) = L - 1 := by rw [IntKind.wrap_i64]; omega
    have hr0 : CkL G objs B0 L kids (x.ask p.id) w5.heap.size (w.heap.size + 2) (.slice Ak kids.length ck) v w 0 v (w5.alloc (.cells #[.int .i64 L, .slice Ak kids.length ck] 96)) :=
      ⟨H0.out.bad, HI6.out, HOWN6.out, rowOf_same rfl, HM6.out, HB11.out, HAB6.out, by simpa using HKO6.out, HAP6.out⟩
    have HR0 := Lib.hid hr0
    have HFL := Lib.hid hfl
    have HY2 := Lib.hid hy
    clear hr0 hfl hy hNN
    go_wp2_with fail
    go_loopw [3, 42] (fun vj i wr => ∃ (j : Nat), i = .int .i64 j ∧ j ≤ kids.length ∧ Hid (CkL G objs B0 L kids (x.ask p.id) w5.heap.size (w.heap.size + 2) (.slice Ak kids.length ck) v w j vj wr)) (fun _ i _ => kids.length - (intOf i).toNat)
    case atStart => exact ⟨0, by go_num, by omega, HR0⟩
    case round =>
      obtain ⟨j, rfl, hj, HF⟩ := hrel
      by_cases hjl : j < kids.length
      · have j1 : (j : Int) < (kids.length : Int) := by omega
        have j0 : (0 : Int) ≤ (j : Int) := by omega
        obtain ⟨A2, c2, he, _, hck, _, _⟩ := own_cells HF.out.kown
        obtain ⟨rfl, rfl⟩ : Ak = A2 ∧ ck = c2 := by simpa using he
        clear he
        rcases hck with h | ⟨bb, b5, rfl, hc5⟩
        · have := flat_len pc_len kids; rw [h] at this; simp at this; omega
        have z0 := hc5 _ _ (flat_get pc_len kids j 0 hjl (by omega))
        have z1 := hc5 _ _ (flat_get pc_len kids j 1 hjl (by omega))
        rw [Nat.add_zero] at z0
        rw [← Nat.add_assoc] at z1
        have hmk := (Mod.refl (fun _ => False) wr).alloc (.cells #[.string kids[j].id, .int .i64 kids[j].size] 25)
        have hpre : CkPre G B0 (L - 1) kids[j] (chkF objs (L - 1).toNat (kids.take j) (x.ask p.id)) u3 (wr.alloc (.cells #[.string kids[j].id, .int .i64 kids[j].size] 25)) :=
          ⟨HF.out.bad, ok.keep _ _ _ _ HF.out.inv hmk (fun _ _ h => h), HF.out.own.alloc _, cnums_next H0.out.nums hjl ⟨HFL.out.1, hL1, hL2⟩ HFL.out.2.2.2.2.2.1 HFL.out.2.2.2.2.2.2, by have := HF.out.mod.size; simp; omega, hBw⟩
        have HCA := Lib.hid (HIH.out L hL1 hL2 HFL.out.1 _ _ _ _ hpre)
        unfold CkPost at HCA
        have hsn : chkF objs (L - 1).toNat (kids.take (j + 1)) (x.ask p.id) = chkS objs (L - 1).toNat kids[j] (chkF objs (L - 1).toNat (kids.take j) (x.ask p.id)) := by
          rw [List.take_succ_eq_append_getElem hjl, chkF_snoc]
        have d0 := HF.out.box.cell (o := 0) rfl
        have e0 := HF.out.abox.cell (o := 0) rfl
        have hdl := HF.out.box.lt
        have hal := HF.out.abox.lt
        have hkb := Has.new wr [.string kids[j].id, .int .i64 kids[j].size] 25
        have y0 := hkb.cell (o := 0) rfl
        have y1 := hkb.cell (o := 1) rfl
        have HSN := Lib.hid hsn
        generalize kids[j] = k at *
        clear hpre hsn hkb hc5
        go_wp2_with fail
        refine HCA.out.mono ?_
        rintro e w6 ⟨v6, rfl, hI6, hm6, hif⟩
        obtain ⟨y, hy⟩ : ∃ y, chkS objs (L - 1).toNat k (chkF objs (L - 1).toNat (kids.take j) (x.ask p.id)) = y := ⟨_, rfl⟩
        have hsn := HSN.out
        simp only [hy] at hsn hI6 hif ⊢
        by_cases hb0 : y.bad = 0
        · have b2 : (y.bad != 0) = false := by simpa using hb0
          rw [if_pos hb0] at hif
          have hmA : Mod (CS G.B u3 wr) wr (wr.alloc (.cells #[.string k.id, .int .i64 k.size] 25)) := (Mod.refl _ _).alloc _
          have hmB := CS.trans HF.out.mod (CS.trans hmA hm6 (rowOf_same rfl)) HF.out.rowof
          have hro := rowOf_trans HF.out.rowof (rowOf_later hif.2 (by simp : wr.heap.size ≤ (wr.alloc (.cells #[.string k.id, .int .i64 k.size] 25)).heap.size)) HF.out.mod.size
          have hnot : ∀ {b : Nat} {T : TypeId} {cs : List Value}, Has wr b cs T → T ∉ tQ → T ≠ 25 → ¬ CS G.B u3 (wr.alloc (.cells #[.string k.id, .int .i64 k.size] 25)) b := fun hh h1 h2 => by
            rintro (e | e)
            · exact Ty.not (Has.row (hh.alloc _)) h1 e
            · exact box_ne hh HF.out.own h2 e rfl
          have hnx : CkL G objs B0 L kids (x.ask p.id) w5.heap.size (w.heap.size + 2) (.slice (some ⟨bb, b5, none⟩) kids.length ck) v w (j + 1) v6 w6 := by
            refine ⟨by rw [hsn]; exact hb0, by rw [hsn]; exact hI6, by rw [hsn]; exact hif.1, hro, hmB, (HF.out.box.alloc _).keep hm6 (hnot HF.out.box (by decide) (by decide)), (HF.out.abox.alloc _).keep hm6 (hnot HF.out.abox (by decide) (by decide)), own_keep (HF.out.kown.alloc _) hm6 (fun g _ hg => ?_), fun g hg hv6 => ?_⟩
            · rintro (e | e)
              · exact Ty.not (own_row (HF.out.kown.alloc _) hg) (by decide) e
              · exact HF.out.apart g hg e
            · rcases hif.2 g hv6 with e | e
              · exact HF.out.apart g hg e
              · have := (HF.out.kown.lt g hg).2; simp at e; omega
          have HNX := Lib.hid hnx
          clear hnx hmA hmB hro hif hI6 hm6 hy hsn hnot hb0
          go_wp2_with fail
          go_roundw
          case rel => exact ⟨j + 1, by go_num, by omega, HNX⟩
          case measure => simp [intOf]; omega
        · have b2 : (y.bad != 0) = true := by simpa using hb0
          have hmA : Mod (CS G.B u3 wr) wr (wr.alloc (.cells #[.string k.id, .int .i64 k.size] 25)) := (Mod.refl _ _).alloc _
          have hmB := CS.trans HF.out.mod (CS.trans hmA hm6 (rowOf_same rfl)) HF.out.rowof
          have hye : y = Y := by
            rw [← HY2.out, chkF_end (j := j + 1) (by rw [hsn]; exact hb0), hsn]
          subst hye
          have HI6' := Lib.hid hI6
          have HM6' := Lib.hid hmB
          have HB0 := Lib.hid hb0
          clear hif hI6 hm6 hsn hb0 hmA hmB hy
          go_wp2_with fail
          go_ret2
          unfold CkPost
          exact ⟨_, rfl, HI6'.out, HM6'.out, by rw [if_neg HB0.out]; rfl⟩
      · have hjk : j = kids.length := by omega
        have j1 : ¬ (j : Int) < (kids.length : Int) := by omega
        have hbad := HF.out.bad
        have hinv := HF.out.inv
        have hown := HF.out.own
        rw [hjk, List.take_length] at hbad hinv hown
        rw [HY2.out] at hbad hinv hown
        have HBB := Lib.hid hbad
        have HII := Lib.hid hinv
        have HOO := Lib.hid hown
        clear hbad hinv hown
        go_wp2_with fail
        go_ret2
        unfold CkPost
        refine ⟨_, by rw [HBB.out]; rfl, HII.out, HF.out.mod, ?_⟩
        rw [if_pos HBB.out]
        exact ⟨HOO.out, HF.out.rowof⟩
theorem chunks_calls {G : Gt} {objs : List Ob} (ok : GtOk G objs) (hob : ObsOk objs) {B0 : Nat} : ∀ (l : Nat), l ≤ 20 → ∀ (p : Part) (x : BS) (v : Value) (w : World), CkPre G B0 (l : Int) p x v w →
    Calls Tryd.prog 37 #[.agg #[.func (.func G.ks) #[] G.caps], .agg #[.string p.id, .int .i64 p.size], .int .i64 (l : Int), v] w (CkPost G B0 v (chkS objs l p x) w)
  | 0, _, p, x, v, w, h => chunks0_calls ok p x v w h
  | l + 1, hl, p, x, v, w, h => by
    rw [chkS_eq objs (l + 1) p x (by omega)]
    refine chunks_step ok hob _ (by omega) (by omega) (fun L h1 h2 h3 p' x' v' w' h' => ?_) p x v w h
    have e : L - 1 = (l : Int) := by omega
    rw [e] at h' ⊢
    rw [show ((l : Int)).toNat = l by omega]
    exact chunks_calls ok hob l (by omega) p' x' v' w' h'
theorem chunksR_calls {G : Gt} {objs : List Ob} (ok : GtOk G objs) (hob : ObsOk objs) {B0 : Nat} (p : Part) (x : BS) (v : Value) (w : World) (h : CkPre G B0 (-1) p x v w) :
    Calls Tryd.prog 37 #[.agg #[.func (.func G.ks) #[] G.caps], .agg #[.string p.id, .int .i64 p.size], .int .i64 (-1), v] w (CkPost G B0 v (chkB objs (-1) p x) w) := by
  refine chunks_step ok hob (-1) (by omega) (by omega) (fun L h1 h2 _ p' x' v' w' h' => ?_) p x v w h
  have e : L - 1 = ((L - 1).toNat : Int) := by omega
  have := chunks_calls ok hob (L - 1).toNat (by omega) p' x' v' w' (by rw [← e]; exact h')
  rw [← e] at this
  exact this
end Blob
end Go.Proofs.YthgcjfpaekpeeaaDoor
