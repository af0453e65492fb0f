/- Joined texts: ProM, ProMa. -/
import Derived.Test.YtpoljpjcmigobaaDoorJ32
import Derived.Test.YtpoljpjcmigobaaDoorJ28
import Derived.Test.YtpoljpjcmigobaaDoorJ31
/- The walks of the reference's List and Many. -/
namespace Go.Proofs.YtpoljpjcmigobaaDoor
set_option linter.unusedVariables false
set_option linter.unusedSimpArgs false
open Go.RowKit K Wire
namespace Prolly
open Go.Proofs.YtpoljpjcmigobaaDoor.Obj Go.Proofs.YtpoljpjcmigobaaDoor.Blob

theorem rGoes_calls {B0 bl : Nat} {A : Option Addr} {c : Nat} {objs : List Ob} (hob : ObsOk objs) (lo hi : ByteArray) : ∀ (f : Nat) (L : Int) (k : Link) (x : LS) (va vo : Value) (w : World), 0 ≤ L → L < f → LOk L k → LkIs B0 bl A c objs va vo x w → x.bad = 0 → Nums L k x →
      Calls Tryd.prog 46 #[.pointer (some ⟨bl, 0, none⟩), .agg #[.string k.last, .string k.id, .int .i64 k.many], .int .i64 L, .string lo, .string hi] w (GoPost B0 bl A c objs va vo (goesS objs lo hi f L k x) w)
  | 0, L, k, x, va, vo, w, h1, h2, _, _, _, _ => absurd h2 (by omega)
  | f + 1, L, k, x, va, vo, w, h1, h2, h3, h4, h5, h6 =>
    rGoes_step hob lo hi f (fun L' k' x' va' vo' w' => rGoes_calls hob lo hi f L' k' x' va' vo' w') L (.inr ⟨h1, by omega⟩) k x va vo w h3 (by rcases h3 with h | h; omega; unfold In64; omega) h4 h5 h6
def ListPost (R : List Pair × List ByteArray × Int) (w : World) (e : Ending) (w' : World) : Prop :=
  ∃ vo va, e = .returned (.tuple #[vo, va, .int .i64 R.2.2]) ∧ w'.ownsRow w.heap.size 48 2 vo R.1.length (R.1.flatMap kc) ∧ w'.ownsRow w.heap.size 9 1 va R.2.1.length (R.2.1.map .string) ∧ Mod (fun _ => False) w w'
set_option maxRecDepth 100000 in
set_option maxHeartbeats 4000000 in
theorem rList_calls (A : Option Addr) (c : Nat) (objs : List Ob) (hob : ObsOk objs) (root lo hi : ByteArray) (w : World) (hA : Cells w A (objs.flatMap oc)) (hlow : objs.flatMap oc ≠ [] → ∀ ad, A = some ad → ad.block < w.heap.size) :
    Calls Tryd.prog 17 #[.slice A objs.length c, .string root, .string lo, .string hi] w (ListPost (listL objs lo hi root) w) := by
  have hlk : LkIs w.heap.size w.heap.size A c objs (.slice none 0 0) (.slice none 0 0) ⟨[], [], 0⟩ (w.alloc (.cells #[.slice A objs.length c, .slice none 0 0, .slice none 0 0, .int .i64 0] 98)) :=
    ⟨Has.new w _ _, World.ownsRow_nil _ _ _ _, World.ownsRow_nil _ _ _ _, hA.alloc _, hlow, Nat.le_refl _⟩
  have hg := rGoes_step hob lo hi 29 (fun L' k' x' va' vo' w' => rGoes_calls hob lo hi 29 L' k' x' va' vo' w') (-1) (.inl ⟨rfl, by omega⟩) (link0 root) ⟨[], [], 0⟩ _ _ _ (.inl rfl) (by unfold In64 link0; simp) hlk rfl ⟨by simp [needA], by simp [needO]⟩
  have hr : goesN objs lo hi (goesS objs lo hi 29) (-1) (link0 root) ⟨[], [], 0⟩ = goesR objs lo hi root := rfl
  rw [hr] at hg
  unfold GoPost at hg
  unfold ListPost listL
  generalize goesR objs lo hi root = Y at *
  have HG := Lib.hid hg
  have hm0 := (Mod.refl (fun _ => False) w).alloc (.cells #[.slice A objs.length c, .slice none 0 0, .slice none 0 0, .int .i64 0] 98)
  have HM0 := Lib.hid hm0
  clear hlk hg hm0 hr hA hlow
  go_enter Tryd.func17, Tryd.ntmps17
  go_wp2_with fail
  refine HG.out.mono ?_
  rintro e w1 ⟨rfl, va, vo, hlk, hm, hra, hro⟩
  have hM1 : Mod (fun _ => False) w w1 := Mod.trans HM0.out hm (fun i hi h => by
    rcases h with h | h | h
    · omega
    · cases h
    · cases h)
  obtain ⟨Aa, ca, rfl, _, _, _, _⟩ := own_cells hlk.oa
  obtain ⟨Ao, co, rfl, _, _, _, _⟩ := own_cells hlk.oo
  have x1 := hlk.box.cell (o := 1) rfl
  have x2 := hlk.box.cell (o := 2) rfl
  have x3 := hlk.box.cell (o := 3) rfl
  have fv1 := fun (w' : World) (mm : Mod0 w1.drew w') => ((Mod.of_drew_l mm).cell (p := ⟨w.heap.size, 1, none⟩) hlk.box.lt (fun h => h)).trans x1
  have fv2 := fun (w' : World) (mm : Mod0 w1.drew w') => ((Mod.of_drew_l mm).cell (p := ⟨w.heap.size, 2, none⟩) hlk.box.lt (fun h => h)).trans x2
  have fv3 := fun (w' : World) (mm : Mod0 w1.drew w') => ((Mod.of_drew_l mm).cell (p := ⟨w.heap.size, 3, none⟩) hlk.box.lt (fun h => h)).trans x3
  have HLK := Lib.hid (hlk.keep0 ((Mod.refl (fun _ => False) w1).drew))
  have HM1 := Lib.hid hM1.drew
  clear hlk hm hra hro hM1
  by_cases hb : Y.bad = 0
  · have b1 : (Y.bad != 0) = false := by simpa using hb
    have HB := Lib.hid hb
    clear hb
    go_wp2_with fail
    refine region_m (by kernel_rfl) ?_
    simp only [List.length_cons, List.length_nil, List.replicate]
    refine take1 0 ?_
    refine take1 1 ?_
    refine take1 2 ?_
    refine take1 3 ?_
    refine take1 4 ?_
    refine take1 5 ?_
    refine take1 6 ?_
    refine take1 7 ?_
    refine take1 8 ?_
    refine take1 9 ?_
    refine take1 10 ?_
    refine wpAnyM_done (by kernel_rfl) ?_
    clear fv1 fv2 fv3 x1 x2 x3
    go_wp2_with fail
    refine bodyPost_ret (v := .tuple #[.slice Ao Y.out.length co, .slice Aa Y.asked.length ca, .int .i64 0]) (by simp [results, Tryd.results17, go_sem]) rfl ⟨_, _, rfl, HLK.out.oo, HLK.out.oa, HM1.out⟩
  · have b1 : (Y.bad != 0) = true := by simpa using hb
    have HB := Lib.hid hb
    clear hb
    go_wp2_with fail
    refine region_m (by kernel_rfl) ?_
    simp only [List.length_cons, List.length_nil, List.replicate]
    refine take1 0 ?_
    refine take1 1 ?_
    refine take1 2 ?_
    refine take1 3 ?_
    refine take1 4 ?_
    refine take1 5 ?_
    refine take1 6 ?_
    refine take1 7 ?_
    refine take1 8 ?_
    refine take1 9 ?_
    refine take1 10 ?_
    refine wpAnyM_done (by kernel_rfl) ?_
    clear fv1 fv2 fv3 x1 x2 x3
    go_wp2_with fail
    refine bodyPost_ret (v := .tuple #[.slice none 0 0, .slice Aa Y.asked.length ca, .int .i64 Y.bad]) (by simp [results, Tryd.results17, go_sem]) rfl ⟨_, _, rfl, World.ownsRow_nil _ _ _ _, HLK.out.oa, HM1.out⟩
end Prolly
end Go.Proofs.YtpoljpjcmigobaaDoor
/- The walks of both Many. -/
namespace Go.Proofs.YtpoljpjcmigobaaDoor
set_option linter.unusedVariables false
set_option linter.unusedSimpArgs false
open Go.RowKit K Wire
namespace Prolly
open Go.Proofs.YtpoljpjcmigobaaDoor.Obj Go.Proofs.YtpoljpjcmigobaaDoor.Blob

theorem pn_facts {objs : List Ob} {k : Link} {level : Int} {n : PNode} (h : pnodeOf objs k level = n) : (pnP n).length ≤ 64 ∧ (pnK n).length ≤ 64 ∧ ∀ q ∈ pnK n, 1 ≤ q.many ∧ q.many ≤ 4096 := by
  cases n with
  | bad e => exact ⟨by simp [pnP], by simp [pnK], fun _ h => by cases h⟩
  | leaf ps =>
    obtain ⟨b, _, hb⟩ := pnode_leaf h
    have hf := leaf_facts hb
    exact ⟨hf.2.2.2.1, by simp [pnK], fun _ h => by cases h⟩
  | branch L kids =>
    obtain ⟨b, _, hb⟩ := pnode_branch h
    have hf := branch_facts hb
    exact ⟨by simp [pnP], hf.2.2.2.2.2.2.2.1, fun q hq => ⟨(hf.2.2.2.2.2.2.2.2.2.2 q hq).1, (hf.2.2.2.2.2.2.2.2.2.2 q hq).2.1⟩⟩
theorem manyR_eq (objs : List Ob) (root : ByteArray) : manyR objs root = (((pnP (pnodeOf objs (link0 root) (-1))).length : Int) + manyL (pnK (pnodeOf objs (link0 root) (-1))), pnE (pnodeOf objs (link0 root) (-1))) := by
  unfold manyR
  cases pnodeOf objs (link0 root) (-1) with
  | bad e => simp [pnP, pnK, pnE, manyL]
  | leaf ps => simp [pnP, pnK, pnE, manyL]
  | branch L kids => simp [pnP, pnK, pnE]
set_option maxRecDepth 100000 in
set_option maxHeartbeats 4000000 in
theorem pMany_calls {G : Gf} {objs : List Ob} (ok : GfOk G objs) (hob : ObsOk objs) {w0 : World} {C : Nat → Prop} (root : ByteArray) (a : List ByteArray) (w : World) (hG : Gs G w0 C a w) (ha : a.length ≤ 1000000000) (h0 : w0.heap.size ≤ w.heap.size) :
    Calls Tryd.prog 20 #[.func (.func G.ks) #[] G.caps, .string root] w fun e w' => e = .returned (.tuple #[.int .i64 (manyR objs root).1, .int .i64 (manyR objs root).2]) ∧ Gs G w0 C (a ++ [root]) w' ∧ Mod (fun g => ¬ C g) w w' := by
  have hl := load_calls ok hob (C := C) (link0 root) (-1) a w hG ha h0
  unfold LoadPost at hl
  rw [manyR_eq]
  obtain ⟨n, hn⟩ : ∃ n, pnodeOf objs (link0 root) (-1) = n := ⟨_, rfl⟩
  rw [hn] at hl ⊢
  have hf := pn_facts hn
  obtain ⟨P, hP⟩ : ∃ P, pnP n = P := ⟨_, rfl⟩
  obtain ⟨K, hK⟩ : ∃ K, pnK n = K := ⟨_, rfl⟩
  obtain ⟨E, hE⟩ : ∃ E, pnE n = E := ⟨_, rfl⟩
  obtain ⟨L, hL⟩ : ∃ L, pnL n = L := ⟨_, rfl⟩
  rw [hP, hK, hE, hL] at hl
  rw [hP, hK, hE]
  rw [hP, hK] at hf
  obtain ⟨f1, f2, f3⟩ := hf
  have hmt := many_take f3 K.length
  rw [List.take_length] at hmt
  have w9 : IntKind.i64.wrap ((P.length : Int) + manyL K) = (P.length : Int) + manyL K := by rw [IntKind.wrap_i64]; omega
  have HL := Lib.hid hl
  have HF3 := Lib.hid f3
  clear hl hn hP hK hE hL f3 hG
  go_enter Tryd.func20, Tryd.ntmps20
  go_wp2_with fail
  refine HL.out.mono ?_
  rintro e w1 ⟨vp, vk, rfl, hvp, hvk, hG1, hm1⟩
  obtain ⟨Ap, cp, rfl, _, _, _, _⟩ := own_cells hvp
  obtain ⟨Ak, ck, rfl, _, hck, _, _⟩ := own_cells hvk
  have hma := (Mod.refl (fun _ => False) w1).alloc (.cells #[.slice Ap P.length cp, .int .i64 L, .slice Ak K.length ck] 80)
  have hbb := Has.new w1 [.slice Ap P.length cp, .int .i64 L, .slice Ak K.length ck] 80
  have hck1 := hck.keep hma (fun _ _ h => h)
  obtain ⟨W, hW⟩ : ∃ W, w1.alloc (.cells #[.slice Ap P.length cp, .int .i64 L, .slice Ak K.length ck] 80) = W := ⟨_, rfl⟩
  rw [hW] at hma hbb hck1
  have HW := Lib.hid hW
  have fv0 := fun (w' : World) (mm : Mod0 W.drew w') => ((Mod.of_drew_l mm).cell (p := ⟨w1.heap.size, 0, none⟩) hbb.lt (fun h => h)).trans (hbb.cell (o := 0) rfl)
  have fv2 := fun (w' : World) (mm : Mod0 W.drew w') => ((Mod.of_drew_l mm).cell (p := ⟨w1.heap.size, 2, none⟩) hbb.lt (fun h => h)).trans (hbb.cell (o := 2) rfl)
  have HCK := Lib.hid hck1
  have HG1 := Lib.hid hG1
  have HM1 := Lib.hid hm1
  have HMA := Lib.hid hma
  clear hvp hvk hG1 hm1 hma hbb hck hck1 hW HL
  go_wp2_with fail
  rw [HW.out]
  refine region_mT (fun _ => False) (by kernel_rfl) ?_
  simp only [List.length_cons, List.length_nil, List.replicate]
  refine take1T 0 ?_
  refine take1T 1 ?_
  refine take1T 2 ?_
  refine take1T 3 ?_
  refine take1T 4 ?_
  refine take1T 5 ?_
  refine take1T 8 ?_
  refine step1T 6 ?_
  go_simp
  refine (many_calls Ak ck K _ (HCK.out.keep ((Mod.refl (fun _ => False) _).drew) (fun _ _ h => h)) f2 HF3.out).mono ?_
  rintro e w2 ⟨rfl, hm2⟩
  refine ⟨.inl hm2, ?_⟩
  refine take1T 7 ?_
  refine take1T 9 ?_
  refine take1T 10 ?_
  refine wpAnyT_done (by kernel_rfl) ?_
  have hmz := Mod.trans HMA.out (Mod.of_drew_l hm2) (fun _ _ h => h)
  have HMZ := Lib.hid hmz
  clear hm2 fv0 fv2 hmz
  go_wp2_with fail
  refine bodyPost_ret (v := .tuple #[.int .i64 ((P.length : Int) + manyL K), .int .i64 E]) (by simp [results, Tryd.results20, go_sem]) rfl ?_
  exact ⟨rfl, (HG1.out.mono (fun g hg => .inl hg)).keep ok HMZ.out (fun _ h => h.elim), Mod.trans HM1.out HMZ.out (fun _ _ h => h.elim)⟩
set_option maxRecDepth 100000 in
set_option maxHeartbeats 4000000 in
theorem rMany_calls (A : Option Addr) (c : Nat) (objs : List Ob) (hob : ObsOk objs) (root : ByteArray) (w : World) (hA : Cells w A (objs.flatMap oc)) :
    Calls Tryd.prog 22 #[.slice A objs.length c, .string root] w fun e w' => e = .returned (.tuple #[.int .i64 (manyR objs root).1, .int .i64 (manyR objs root).2]) ∧ Mod (fun _ => False) w w' := by
  have hnd := rNode_calls A c objs hob (link0 root) (-1) w hA (by unfold In64 link0; simp)
  unfold NodePost at hnd
  rw [manyR_eq]
  obtain ⟨n, hn⟩ : ∃ n, pnodeOf objs (link0 root) (-1) = n := ⟨_, rfl⟩
  rw [hn] at hnd ⊢
  have hf := pn_facts hn
  have hbad : pnE n = 0 ∨ (pnE n ≠ 0 ∧ pnP n = [] ∧ pnK n = []) := by
    cases n with
    | bad e => right; exact ⟨by have := pnode_bad hn; simp only [pnE]; omega, rfl, rfl⟩
    | leaf ps => left; rfl
    | branch L kids => left; rfl
  obtain ⟨P, hP⟩ : ∃ P, pnP n = P := ⟨_, rfl⟩
  obtain ⟨K, hK⟩ : ∃ K, pnK n = K := ⟨_, rfl⟩
  obtain ⟨E, hE⟩ : ∃ E, pnE n = E := ⟨_, rfl⟩
  obtain ⟨L, hL⟩ : ∃ L, pnL n = L := ⟨_, rfl⟩
  rw [hP, hK, hE, hL] at hnd
  rw [hP, hK, hE]
  rw [hP, hK] at hf
  rw [hP, hK, hE] at hbad
  obtain ⟨f1, f2, f3⟩ := hf
  have HND := Lib.hid hnd
  have HF3 := Lib.hid f3
  clear hnd hA hn hP hK hE hL f3
  go_enter Tryd.func22, Tryd.ntmps22
  go_wp2_with fail
  refine HND.out.mono ?_
  rintro e w1 ⟨vp, vk, rfl, hvp, hvk, hm1⟩
  obtain ⟨Ap, cp, rfl, _, _, _, _⟩ := own_cells hvp
  obtain ⟨Ak, ck, rfl, _, hck, _, _⟩ := own_cells hvk
  have hma := (Mod.refl (fun _ => False) w1).alloc (.cells #[.slice Ap P.length cp, .int .i64 L, .slice Ak K.length ck] 92)
  have hbb := Has.new w1 [.slice Ap P.length cp, .int .i64 L, .slice Ak K.length ck] 92
  have hck1 := hck.keep hma (fun _ _ h => h)
  obtain ⟨W, hW⟩ : ∃ W, w1.alloc (.cells #[.slice Ap P.length cp, .int .i64 L, .slice Ak K.length ck] 92) = W := ⟨_, rfl⟩
  rw [hW] at hma hbb hck1
  have HW := Lib.hid hW
  have HMA := Lib.hid (Mod.trans hm1 hma (fun _ _ h => h))
  rcases hbad with rfl | ⟨hE, rfl, rfl⟩
  · have p0 := hbb.cell (o := 0) rfl
    have HBB := Lib.hid hbb
    have HCK := Lib.hid hck1
    rw [← hW] at p0
    clear hvp hvk hm1 hma hbb hck hck1 hW HND
    go_wp2_with fail
    rw [HW.out]
    go_loopw [8, 9] (fun m i wr => ∃ (j : Nat) (z : Int), i = .int .i64 j ∧ m = .int .i64 z ∧ j ≤ K.length ∧ Hid (z = P.length + manyL (K.take j)) ∧ Hid (Mod (fun _ => False) W wr)) (fun _ i _ => K.length - (intOf i).toNat)
    case atStart => exact ⟨0, P.length, by go_num, rfl, by omega, Lib.hid (by simp [manyL]), Lib.hid (Mod.refl _ _)⟩
    case round =>
      obtain ⟨j, z, rfl, rfl, hj, HZ, HMR⟩ := hrel
      have q2 := (HBB.out.keep HMR.out (fun h => h)).cell (o := 2) rfl
      by_cases hjl : j < K.length
      · have j1 : (j : Int) < (K.length : Int) := by omega
        have j0 : (0 : Int) ≤ (j : Int) := by omega
        rcases HCK.out.keep HMR.out (fun _ _ h => h) with h | ⟨ba, o, rfl, hcell⟩
        · have := flat_len lc_len K; rw [h] at this; simp at this; omega
        have y2 := hcell _ _ (flat_get lc_len K j 2 hjl (by omega))
        rw [← Nat.add_assoc] at y2
        have hst := many_snoc hjl
        have g0 := many_take HF3.out j
        have g1 := many_take HF3.out (j + 1)
        have hz := HZ.out
        rw [hst] at g1
        generalize K[j] = p at *
        have HT : Hid (z + p.many = P.length + manyL (K.take (j + 1))) := Lib.hid (by rw [hst, hz]; omega)
        have hz0 : 0 ≤ z + p.many ∧ z + p.many ≤ 1000000 := by omega
        clear hcell hst g0 g1 hz
        go_wp2_with fail
        go_roundw
        case rel => exact ⟨j + 1, z + p.many, by go_num, rfl, by omega, HT, HMR⟩
        case measure => simp [intOf]; omega
      · have hjk : j = K.length := by omega
        have j1 : ¬ (j : Int) < (K.length : Int) := by omega
        have hz := HZ.out
        rw [hjk, List.take_length] at hz
        subst hz
        have HMF := Lib.hid (Mod.trans HMA.out HMR.out (fun _ _ h => h))
        clear HZ
        go_wp2_with fail
        go_ret2
        exact ⟨rfl, HMF.out⟩
  · have b1 : (E != 0) = true := by simpa using hE
    simp only [List.length_nil] at HW
    clear hvp hvk hm1 hma hbb hck hck1 hE HND hW
    go_wp2_with fail
    rw [HW.out]
    go_ret2
    exact ⟨by simp [manyL], HMA.out⟩
end Prolly
end Go.Proofs.YtpoljpjcmigobaaDoor
