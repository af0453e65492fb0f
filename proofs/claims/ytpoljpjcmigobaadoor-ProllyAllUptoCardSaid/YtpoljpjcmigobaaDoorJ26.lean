/- Joined texts: ProE. -/
import Derived.Test.YtpoljpjcmigobaaDoorJ25
/- The walk of prolly's Find. -/
namespace Go.Proofs.YtpoljpjcmigobaaDoor
set_option linter.unusedVariables false
set_option linter.unusedSimpArgs false
open Go.RowKit K Wire
namespace Prolly
open Go.Proofs.YtpoljpjcmigobaaDoor.Obj Go.Proofs.YtpoljpjcmigobaaDoor.Blob

/-- the level that a node's box holds -/
def lvAt (bn : Nat) (w : World) : Nat := match w.cell? ⟨bn, 1, none⟩ with | some (.int _ l) => l.toNat | _ => 0
theorem lvAt_has {bn : Nat} {w : World} {x y : Value} {L : Int} {T : TypeId} (h : Has w bn [x, .int .i64 L, y] T) : lvAt bn w = L.toNat := by
  unfold lvAt; rw [h.cell (o := 1) rfl]
theorem fin_bad (objs : List Ob) (key : ByteArray) (f : Nat) (e : Int) (a : List ByteArray) (h : 0 < f) : fin objs key f (.bad e) a = ⟨⟨#[]⟩, false, a, e⟩ := by
  cases f with
  | zero => omega
  | succ f => rfl
theorem fin_leaf (objs : List Ob) (key : ByteArray) (f : Nat) (ps : List Pair) (a : List ByteArray) (h : 0 < f) : fin objs key f (.leaf ps) a = match valOf ps key with | some v => ⟨v, true, a, 0⟩ | none => ⟨⟨#[]⟩, false, a, 0⟩ := by
  cases f with
  | zero => omega
  | succ f => rfl
theorem fin_branch (objs : List Ob) (key : ByteArray) (f : Nat) (L : Int) (kids : List Link) (a : List ByteArray) (i : Nat) (hi : below key (kids.map (·.last)) = i) :
    fin objs key (f + 1) (.branch L kids) a = if h : i < kids.length then fin objs key f (pnodeOf objs kids[i] (L - 1)) (a ++ [(kids[i]).id]) else ⟨⟨#[]⟩, false, a, 0⟩ := by
  subst hi; rfl
def CCf (C : Nat → Prop) (bn : Nat) (vp vk : Value) (g : Nat) : Prop := C g ∨ g = bn ∨ vp.ownBlock = some g ∨ vk.ownBlock = some g
/-- between two nodes -/
structure FLoop (G : Gf) (objs : List Ob) (w0 : World) (C : Nat → Prop) (key : ByteArray) (R : FR) (w : World) (bn : Nat) (n : PNode) (a : List ByteArray) (f : Nat) (vp vk : Value) (wr : World) : Prop where
  fin : fin objs key f n a = R
  lv : pnL n < f
  al : a.length + f ≤ 40
  ok : ∃ k level, pnodeOf objs k level = n
  box : Has wr bn [vp, .int .i64 (pnL n), vk] 80
  op : wr.ownsRow w.heap.size 48 2 vp (pnP n).length ((pnP n).flatMap kc)
  ol : wr.ownsRow w.heap.size 67 3 vk (pnK n).length ((pnK n).flatMap lc)
  gs : Gs G w0 (CCf C bn vp vk) a wr
  mod : Mod (fun g => ¬ C g) w wr
theorem pnL_lv (objs : List Ob) (k : Link) (level : Int) : pnL (pnodeOf objs k level) ≤ 20 ∧ 0 ≤ pnL (pnodeOf objs k level) ∧ (0 ≤ level → pnL (pnodeOf objs k level) ≤ level) := by
  have h := pnode_lv objs k level
  have e : pnL (pnodeOf objs k level) = (pnodeOf objs k level).lv := by cases pnodeOf objs k level <;> rfl
  rw [e]; exact h
def FindPost (G : Gf) (w0 : World) (C : Nat → Prop) (R : FR) (w : World) (e : Ending) (w' : World) : Prop :=
  e = .returned (.tuple #[.string R.val, .bool R.is, .int .i64 R.e]) ∧ Gs G w0 C R.asked w' ∧ Mod (fun g => ¬ C g) w w'

set_option maxRecDepth 100000 in
set_option maxHeartbeats 8000000 in
theorem pFind_calls {G : Gf} {objs : List Ob} (ok : GfOk G objs) (hob : ObsOk objs) {w0 : World} {C : Nat → Prop} (root key : ByteArray) (w : World) (hG : Gs G w0 C [] w) (h0 : w0.heap.size ≤ w.heap.size) :
    Calls Tryd.prog 12 #[.func (.func G.ks) #[] G.caps, .string root, .string key] w (FindPost G w0 C (findR objs root key) w) := by
  obtain ⟨R, hR⟩ : ∃ R, findR objs root key = R := ⟨_, rfl⟩
  rw [hR]
  unfold findR at hR
  unfold FindPost
  by_cases hk : 1 ≤ key.size ∧ key.size ≤ 64
  · rw [if_pos hk] at hR
    have k1 := str_full key (by omega)
    have k2 : ¬ (64 : Int) < (key.size : Int) := by omega
    have hL := load_calls ok hob (link0 root) (-1) [] w hG (by simp) h0
    unfold LoadPost at hL
    obtain ⟨n0, hn0⟩ : ∃ n0, pnodeOf objs (link0 root) (-1) = n0 := ⟨_, rfl⟩
    have hlv := pnL_lv objs (link0 root) (-1)
    rw [hn0] at hL hR hlv
    have HR := Lib.hid hR
    have HN0 := Lib.hid hn0
    have HL := Lib.hid hL
    clear hL hR hn0 hG hk
    go_enter Tryd.func12, Tryd.ntmps12
    go_wp2_with fail
    refine HL.out.mono ?_
    rintro e w2 ⟨vp, vk, rfl, hvp, hvk, hg2, hm2⟩
    have hma := (Mod.refl (fun _ => False) w2).alloc (.cells #[vp, .int .i64 (pnL n0), vk] 80)
    have hfl : FLoop G objs w0 C key R w w2.heap.size n0 [root] 30 vp vk (w2.alloc (.cells #[vp, .int .i64 (pnL n0), vk] 80)) :=
      ⟨HR.out, by omega, by simp, ⟨_, _, HN0.out⟩, Has.new w2 _ _, hvp.alloc _, hvk.alloc _, (hg2.grow ok hma).mono (fun g hg => by
        rcases hg with hg | rfl | hg | hg
        · exact .inl (.inl hg)
        · exact .inr ⟨Nat.le_refl _, by simp⟩
        · exact .inl (.inr (.inl hg))
        · exact .inl (.inr (.inr hg))), hm2.alloc _⟩
    have HF := Lib.hid hfl
    have hbn : w.heap.size ≤ w2.heap.size := hm2.size
    clear hfl hma hvp hvk hg2 hm2 HL HR HN0
    obtain ⟨A0, c0, rfl, _, _, _, _⟩ := own_cells HF.out.op
    obtain ⟨A1, c1, rfl, _, _, _, _⟩ := own_cells HF.out.ol
    obtain ⟨E0, hE0⟩ : ∃ E, pnE n0 = E := ⟨_, rfl⟩
    obtain ⟨L0, hL0⟩ : ∃ L, pnL n0 = L := ⟨_, rfl⟩
    obtain ⟨np, hnp⟩ : ∃ n, (pnP n0).length = n := ⟨_, rfl⟩
    obtain ⟨nk, hnk⟩ : ∃ n, (pnK n0).length = n := ⟨_, rfl⟩
    simp only [hE0, hL0, hnp, hnk] at HF ⊢
    have HE0 := Lib.hid hE0
    clear hE0 hL0 hnp hnk hlv
    go_wp2_with fail
    go_loopw [10] (fun e wr => ∃ (n : PNode) (a : List ByteArray) (f : Nat) (vp vk : Value), e = .int .i64 (pnE n) ∧ Hid (FLoop G objs w0 C key R w w2.heap.size n a f vp vk wr)) (fun _ wr => lvAt w2.heap.size wr)
    case atStart => exact ⟨n0, [root], 30, _, _, by rw [HE0.out], HF⟩
    case round =>
      clear HF
      obtain ⟨n, a, f, vp, vk, rfl, HF⟩ := hrel
      have hlt := HF.out.lv
      have hal := HF.out.al
      have hkp := HF.out.ok
      have hfin := HF.out.fin
      have x0 := HF.out.box.cell (o := 0) rfl
      have x1 := HF.out.box.cell (o := 1) rfl
      have x2 := HF.out.box.cell (o := 2) rfl
      obtain ⟨kq, lq, hkq⟩ := hkp
      cases n with
      | bad e =>
        have he := pnode_bad hkq
        have b0 : (e == 0) = false := by simp; omega
        have b1 : (e != 0) = true := by simp; omega
        rw [fin_bad objs key f e a (by simp only [pnL] at hlt; omega)] at hfin
        subst hfin
        simp only [pnE]
        clear x0 x1 x2 hlt hkq he
        go_wp2_with fail
        refine bodyPost_ret (v := .tuple #[.string ⟨#[]⟩, .bool false, .int .i64 e]) (by simp [results, Tryd.results12, go_sem]) rfl ⟨rfl, HF.out.gs.mono (fun g hg => .inl hg), HF.out.mod⟩
      | leaf ps =>
        obtain ⟨bb, _, hbb⟩ := pnode_leaf hkq
        obtain ⟨_, _, _, hpl, hris, hpk⟩ := leaf_facts hbb
        rw [fin_leaf objs key f ps a (by simp only [pnL] at hlt; omega)] at hfin
        have hop : wr.ownsRow w.heap.size 48 2 vp ps.length (ps.flatMap kc) := HF.out.op
        obtain ⟨Ap, cp, rfl, _, hcp, _, _⟩ := own_cells hop
        have hS := searchP_calls Ap cp ps key wr hcp hpl hris
        obtain ⟨I, hI⟩ : ∃ I, below key (ps.map (·.key)) = I := ⟨_, rfl⟩
        obtain ⟨FB, hFB⟩ : ∃ FB, foundB key (ps.map (·.key)) = FB := ⟨_, rfl⟩
        have hvm := fun h => valOf_bs (key := key) hris h
        rw [hFB, hI] at hS
        have hdf : FB = decide (∃ h : I < ps.length, ps[I].key = key) := by
          rw [← hFB]
          unfold foundB
          rw [hI]
          congr 1
          rw [eq_iff_iff]
          constructor
          · rintro ⟨h1, h2⟩
            rw [List.length_map] at h1
            exact ⟨h1, by rw [← h2]; simp [List.getD, h1]⟩
          · rintro ⟨h1, h2⟩
            exact ⟨by simpa using h1, by rw [← h2]; simp [List.getD, h1]⟩
        have HS := Lib.hid hS
        simp only [pnE, pnL, pnP] at x0 x1 x2 ⊢
        have HCP := Lib.hid hcp
        clear hcp hS hkq hlt hop
        go_wp2_with fail
        refine HS.out.mono ?_
        rintro e w4 ⟨rfl, hm4⟩
        have hg4 := HF.out.gs.keep ok hm4 (fun _ h => h.elim)
        have hm04 := Mod.trans HF.out.mod hm4 (fun _ _ h => h.elim)
        have hx0 := (HF.out.box.keep hm4 (fun h => h)).cell (o := 0) rfl
        have HG4 := Lib.hid hg4
        have HM4 := Lib.hid hm04
        by_cases hex : ∃ h : I < ps.length, ps[I].key = key
        · obtain ⟨hil, hik⟩ := hex
          rw [decide_eq_true ⟨hil, hik⟩] at hdf
          subst hdf
          rw [(valOf_hit hris hil hik).1] at hfin
          subst hfin
          have i0 : (0 : Int) ≤ (I : Int) := by omega
          have i1 : (I : Int) < (ps.length : Int) := by omega
          rcases HCP.out.keep hm4 (fun _ _ h => h) with h | ⟨ba, o, rfl, hcell⟩
          · have := flat_len kc_len ps; rw [h] at this; simp at this; omega
          have y1 := hcell _ _ (flat_get kc_len ps I 1 hil (by omega))
          rw [← Nat.add_assoc] at y1
          obtain ⟨P, hP⟩ : ∃ P, ps[I] = P := ⟨_, rfl⟩
          rw [hP] at y1
          have HP := Lib.hid hP
          clear hP hcell hg4 hm04 hm4 hI hFB x0 x1 x2 hvm hik
          go_wp2_with fail
          refine bodyPost_ret (v := .tuple #[.string P.val, .bool true, .int .i64 0]) (by simp [results, Tryd.results12, go_sem]) rfl ⟨by rw [HP.out], HG4.out.mono (fun g hg => .inl hg), HM4.out⟩
        · rw [decide_eq_false hex] at hdf
          subst hdf
          rw [hvm (fun hi he => hex (by rw [hI] at hi; exact ⟨hi, by rw [← he]; simp only [hI]⟩))] at hfin
          subst hfin
          clear hg4 hm04 hm4 hI hFB x0 x1 x2 hvm hex
          go_wp2_with fail
          refine bodyPost_ret (v := .tuple #[.string ⟨#[]⟩, .bool false, .int .i64 0]) (by simp [results, Tryd.results12, go_sem]) rfl ⟨rfl, HG4.out.mono (fun g hg => .inl hg), HM4.out⟩
      | branch L kids =>
        obtain ⟨bb, _, hbb⟩ := pnode_branch hkq
        obtain ⟨_, _, _, _, hL1, hL2, hkn, hkl, hris, _, hkk⟩ := branch_facts hbb
        simp only [pnL] at hlt
        obtain ⟨f, rfl⟩ : ∃ f', f = f' + 1 := ⟨f - 1, by omega⟩
        obtain ⟨I, hI⟩ : ∃ I, below key (kids.map (·.last)) = I := ⟨_, rfl⟩
        rw [fin_branch objs key f L kids a I hI] at hfin
        have hol : wr.ownsRow w.heap.size 67 3 vk kids.length (kids.flatMap lc) := HF.out.ol
        obtain ⟨Ak, ck, rfl, _, hck, _, _⟩ := own_cells hol
        have hS := searchL_calls Ak ck kids key wr hck hkl hris
        obtain ⟨FB, hFB⟩ : ∃ FB, foundB key (kids.map (·.last)) = FB := ⟨_, rfl⟩
        have hil := below_le key (kids.map (·.last))
        rw [List.length_map] at hil
        rw [hFB, hI] at hS
        rw [hI] at hil
        have HS := Lib.hid hS
        simp only [pnE, pnL, pnP] at x0 x1 x2 ⊢
        have HCK := Lib.hid hck
        have i9 : 0 < L := by omega
        clear hck hS hkq hol hFB hI
        go_wp2_with fail
        refine HS.out.mono ?_
        rintro e w4 ⟨rfl, hm4⟩
        have hg4 := HF.out.gs.keep ok hm4 (fun _ h => h.elim)
        have hm04 := Mod.trans HF.out.mod hm4 (fun _ _ h => h.elim)
        have hb4 := HF.out.box.keep hm4 (fun h => h)
        clear x0 x1 x2
        have x1 := hb4.cell (o := 1) rfl
        have x2 := hb4.cell (o := 2) rfl
        simp only [pnL] at x1 x2 hb4
        have HG4 := Lib.hid hg4
        have HM4 := Lib.hid hm04
        have HB4 := Lib.hid hb4
        by_cases hik : I = kids.length
        · rw [dif_neg (by omega)] at hfin
          subst hfin
          have i1 : ((I : Int) == (kids.length : Int)) = true := by rw [hik]; simp
          have i2 : (I : Int) = (kids.length : Int) := by omega
          clear hik hg4 hm04 hb4 hm4
          go_wp2_with fail
          refine bodyPost_ret (v := .tuple #[.string ⟨#[]⟩, .bool false, .int .i64 0]) (by simp [results, Tryd.results12, go_sem]) rfl ⟨rfl, HG4.out.mono (fun g hg => .inl hg), HM4.out⟩
        · have hil2 : I < kids.length := by omega
          rw [dif_pos hil2] at hfin
          have i1 : ((I : Int) == (kids.length : Int)) = false := by simp; omega
          have i2 : ¬ (I : Int) = (kids.length : Int) := by omega
          have i3 : (0 : Int) ≤ (I : Int) := by omega
          have i4 : (I : Int) < (kids.length : Int) := by omega
          rcases HCK.out.keep hm4 (fun _ _ h => h) with h | ⟨ba, o, rfl, hcell⟩
          · have := flat_len lc_len kids; rw [h] at this; simp at this; omega
          have y0 := hcell _ _ (flat_get lc_len kids I 0 hil2 (by omega))
          have y1 := hcell _ _ (flat_get lc_len kids I 1 hil2 (by omega))
          have y2 := hcell _ _ (flat_get lc_len kids I 2 hil2 (by omega))
          rw [Nat.add_zero] at y0
          rw [← Nat.add_assoc] at y1 y2
          have hbl : ba < w4.heap.size := World.block_lt_of_cell? w4 _ y0
          have hal2 : a.length ≤ 40 := by omega
          have hgd := hg4.keep ok (Mod.drew (Mod.refl (fun _ => False) w4)) (fun _ h => h.elim)
          have hld := load_calls ok hob kids[I] (L - 1) a w4.drew hgd (by omega) (Nat.le_trans h0 hm04.size)
          have hlv2 := pnL_lv objs kids[I] (L - 1)
          have hok2 : ∃ k level, pnodeOf objs k level = pnodeOf objs kids[I] (L - 1) := ⟨_, _, rfl⟩
          unfold LoadPost at hld
          obtain ⟨n2, hn2⟩ : ∃ n2, pnodeOf objs kids[I] (L - 1) = n2 := ⟨_, rfl⟩
          rw [hn2] at hld hlv2 hfin hok2
          obtain ⟨E2, hE2⟩ : ∃ E, pnE n2 = E := ⟨_, rfl⟩
          obtain ⟨L2, hL2'⟩ : ∃ L, pnL n2 = L := ⟨_, rfl⟩
          obtain ⟨np2, hnp2⟩ : ∃ n, (pnP n2).length = n := ⟨_, rfl⟩
          obtain ⟨nk2, hnk2⟩ : ∃ n, (pnK n2).length = n := ⟨_, rfl⟩
          rw [hE2, hL2', hnp2, hnk2] at hld
          rw [hL2'] at hlv2
          obtain ⟨K, hK⟩ : ∃ K, kids[I] = K := ⟨_, rfl⟩
          rw [hK] at y0 y1 y2 hld hfin
          have HLD := Lib.hid hld
          have HFIN := Lib.hid hfin
          have HOK2 := Lib.hid hok2
          have HEQ := Lib.hid (And.intro hE2 (And.intro hL2' (And.intro hnp2 hnk2)))
          have w1 : IntKind.i64.wrap (L - 1) = L - 1 := by rw [IntKind.wrap_i64]; omega
          have hCb : CCf C w2.heap.size vp (.slice (some ⟨ba, o, none⟩) kids.length ck) ba := .inr (.inr (.inr rfl))
          have fa1 := fun (w' : World) (m : Mod (fun g => ¬ CCf C w2.heap.size vp (.slice (some ⟨ba, o, none⟩) kids.length ck) g) w4.drew w') => ((Mod.of_drew_l m).cell (p := ⟨w2.heap.size, 1, none⟩) hb4.lt (fun h => h (.inr (.inl rfl)))).trans x1
          have fa2 := fun (w' : World) (m : Mod (fun g => ¬ CCf C w2.heap.size vp (.slice (some ⟨ba, o, none⟩) kids.length ck) g) w4.drew w') => ((Mod.of_drew_l m).cell (p := ⟨w2.heap.size, 2, none⟩) hb4.lt (fun h => h (.inr (.inl rfl)))).trans x2
          have fb0 := fun (w' : World) (m : Mod (fun g => ¬ CCf C w2.heap.size vp (.slice (some ⟨ba, o, none⟩) kids.length ck) g) w4.drew w') => ((Mod.of_drew_l m).cell (p := ⟨ba, o + I * 3, none⟩) hbl (fun h => h hCb)).trans y0
          have fb1 := fun (w' : World) (m : Mod (fun g => ¬ CCf C w2.heap.size vp (.slice (some ⟨ba, o, none⟩) kids.length ck) g) w4.drew w') => ((Mod.of_drew_l m).cell (p := ⟨ba, o + I * 3 + 1, none⟩) hbl (fun h => h hCb)).trans y1
          have fb2 := fun (w' : World) (m : Mod (fun g => ¬ CCf C w2.heap.size vp (.slice (some ⟨ba, o, none⟩) kids.length ck) g) w4.drew w') => ((Mod.of_drew_l m).cell (p := ⟨ba, o + I * 3 + 2, none⟩) hbl (fun h => h hCb)).trans y2
          clear hcell y0 y1 y2 hgd hld hfin hn2 hK hE2 hL2' hnp2 hnk2 hok2 hCb hg4 hm04 hm4 HCK
          go_wp2_with fail
          refine region_mT (fun g => ¬ CCf C w2.heap.size vp (.slice (some ⟨ba, o, none⟩) kids.length ck) g) (by kernel_rfl) ?_
          simp only [List.length_cons, List.length_nil, List.replicate]
          refine take1T 0 ?_
          refine take1T 1 ?_
          refine take1T 2 ?_
          refine take1T 3 ?_
          refine take1T 4 ?_
          refine take1T 5 ?_
          refine take1T 6 ?_
          refine take1T 7 ?_
          refine take1T 8 ?_
          refine take1T 9 ?_
          refine take1T 10 ?_
          refine step1T 11 ?_
          go_simp
          refine HLD.out.mono ?_
          rintro e w5 ⟨vp2, vk2, rfl, hvp2, hvk2, hg5, hm5⟩
          refine ⟨.inl hm5, ?_⟩
          obtain ⟨Ap2, cp2, rfl, _, _, _, _⟩ := own_cells hvp2
          obtain ⟨Ak2, ck2, rfl, _, _, _, _⟩ := own_cells hvk2
          have hb5 := HB4.out.drew.keep hm5 (fun h => h (.inr (.inl rfl)))
          have c0 := hb5.cell (o := 0) rfl
          have c1 := hb5.cell (o := 1) rfl
          have c2 := hb5.cell (o := 2) rfl
          have f0 := hb5.frozen 0
          have f1 := hb5.frozen 1
          have f2 := hb5.frozen 2
          refine take1T 12 ?_
          refine take1T 13 ?_
          refine take1T 14 ?_
          refine step1T 15 ?_
          go_simp
          refine ⟨.inr (by kernel_rfl), ?_⟩
          refine take1T 16 ?_
          refine wpAnyT_done (by kernel_rfl) ?_
          have hms := (((Mod.refl (fun g => g = w2.heap.size) w5).set1 rfl 0 (.slice Ap2 np2 cp2)).set1 rfl 1 (.int .i64 L2)).set1 rfl 2 (.slice Ak2 nk2 ck2)
          have hb6 := ((hb5.set 0 (.slice Ap2 np2 cp2)).set 1 (.int .i64 L2)).set 2 (.slice Ak2 nk2 ck2)
          simp only [List.set_cons_zero, List.set_cons_succ] at hb6
          have hws := HM4.out.size
          have hfl2 : FLoop G objs w0 C key R w w2.heap.size n2 (a ++ [K.id]) f (.slice Ap2 np2 cp2) (.slice Ak2 nk2 ck2) (((w5.setCell ⟨w2.heap.size, 0, none⟩ (.slice Ap2 np2 cp2)).setCell ⟨w2.heap.size, 1, none⟩ (.int .i64 L2)).setCell ⟨w2.heap.size, 2, none⟩ (.slice Ak2 nk2 ck2)) := by
            obtain ⟨e1, e2, e3, e4⟩ := HEQ.out
            refine ⟨HFIN.out, by rw [e2]; omega, by simp; omega, HOK2.out, by rw [e2]; exact hb6, ?_, ?_, ?_, ?_⟩
            · rw [e3]; exact own_base (own_other hvp2 hb5 (by decide) hms) hws
            · rw [e4]; exact own_base (own_other hvk2 hb5 (by decide) hms) hws
            · refine (hg5.keep ok hms (fun g hg => ?_)).mono (fun g hg => ?_)
              · subst hg
                exact ⟨.inl (.inr (.inl rfl)), fun hn => by have := hg5.n _ hn; omega⟩
              · rcases hg with hg | hg | hg
                · exact .inl (.inl hg)
                · exact .inl (.inr (.inl hg))
                · exact .inr hg
            · exact Mod.trans (Mod.trans HM4.out.drew hm5 (fun i hi h hc => h (.inl hc))) hms (fun i hi e => by omega)
          have HF2 := Lib.hid hfl2
          have HE2 := Lib.hid HEQ.out.1
          have hmeas : lvAt w2.heap.size (((w5.setCell ⟨w2.heap.size, 0, none⟩ (.slice Ap2 np2 cp2)).setCell ⟨w2.heap.size, 1, none⟩ (.int .i64 L2)).setCell ⟨w2.heap.size, 2, none⟩ (.slice Ak2 nk2 ck2)) < lvAt w2.heap.size wr := by
            rw [lvAt_has hb6, lvAt_has HF.out.box]
            simp only [pnL]
            omega
          have HMS := Lib.hid hmeas
          clear fa1 fa2 fb0 fb1 fb2 hms hb6 hfl2 hmeas hb5 c0 c1 c2 f0 f1 f2 hvp2 hvk2 hg5 hm5
          go_wp2_with fail
          go_roundw
          case rel => exact ⟨n2, a ++ [K.id], f, _, _, congrArg (Value.int IntKind.i64) HE2.out.symm, HF2⟩
          case measure => exact HMS.out
  · rw [if_neg hk] at hR
    subst hR
    have HG := Lib.hid hG
    clear hG
    by_cases hz : key.size = 0
    · have k1 : key.toList.isEmpty = true := by rw [str_none key hz, Lib.toList_data]; rfl
      clear hk
      go_enter Tryd.func12, Tryd.ntmps12
      go_wp2_with fail
      refine bodyPost_ret (v := .tuple #[.string ⟨#[]⟩, .bool false, .int .i64 2]) (by simp [results, Tryd.results12, go_sem]) rfl ⟨rfl, HG.out, Mod.refl _ _⟩
    · have k1 := str_full key (by omega)
      have k2 : (64 : Int) < (key.size : Int) := by omega
      clear hk
      go_enter Tryd.func12, Tryd.ntmps12
      go_wp2_with fail
      refine bodyPost_ret (v := .tuple #[.string ⟨#[]⟩, .bool false, .int .i64 2]) (by simp [results, Tryd.results12, go_sem]) rfl ⟨rfl, HG.out, Mod.refl _ _⟩
end Prolly
end Go.Proofs.YtpoljpjcmigobaaDoor
