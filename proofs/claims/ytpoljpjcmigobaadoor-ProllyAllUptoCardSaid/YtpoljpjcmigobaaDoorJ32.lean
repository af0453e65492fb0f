/- Joined texts: ProL. -/
import Derived.Test.YtpoljpjcmigobaaDoorJ31
import Derived.Deep.QuietTactic
import Derived.BigQuiet
/- The walk of the reference's goes. -/
namespace Go.Proofs.YtpoljpjcmigobaaDoor
set_option linter.unusedVariables false
set_option linter.unusedSimpArgs false
open Go.RowKit K Wire
namespace Prolly
open Go.Proofs.YtpoljpjcmigobaaDoor.Obj Go.Proofs.YtpoljpjcmigobaaDoor.Blob

theorem mod_realloc2 {S : Nat → Prop} {w : World} {o o' : Go.Obj} (h : S w.heap.size) : Mod S (w.alloc o) (w.alloc o') := by
  refine ⟨rfl, rfl, rfl, by simp, fun k hk hs => ?_⟩
  have : k < w.heap.size := by
    rcases Nat.lt_or_ge k w.heap.size with h1 | h1
    · exact h1
    · have h2 : k < w.heap.size + 1 := by simpa using hk
      obtain rfl : k = w.heap.size := by omega
      exact absurd h hs
  rw [Below.heap_alloc _ _ _ this, Below.heap_alloc _ _ _ this]
def Nums (level : Int) (k : Link) (x : LS) : Prop := (x.asked.length : Int) + needA level k ≤ 1000000 ∧ (x.out.length : Int) + needO level k ≤ 1000000
/-- behind the node that was met -/
structure NdIs (B0 bl bn : Nat) (A : Option Addr) (c : Nat) (objs : List Ob) (va vo va0 vo0 vp vk : Value) (x : LS) (n : PNode) (w0 w : World) : Prop where
  lk : LkIs B0 bl A c objs va vo x w
  node : Has w bn [vp, .int .i64 (pnL n), vk] 92
  op : w.ownsRow w0.heap.size 48 2 vp (pnP n).length ((pnP n).flatMap kc)
  ol : w.ownsRow w0.heap.size 67 3 vk (pnK n).length ((pnK n).flatMap lc)
  mod : Mod (LkS bl va0 vo0) w0 w
  ra : RowOf w0 va0 va
  ro : RowOf w0 vo0 vo
  ap : ∀ g, vp.ownBlock = some g → vo.ownBlock ≠ some g
theorem NdIs.next {B0 bl bn : Nat} {A : Option Addr} {c : Nat} {objs : List Ob} {va vo va0 vo0 vp vk va1 vo1 : Value} {x x1 : LS} {n : PNode} {w0 w w1 : World} (h : NdIs B0 bl bn A c objs va vo va0 vo0 vp vk x n w0 w)
    (h1 : LkIs B0 bl A c objs va1 vo1 x1 w1) (m : Mod (LkS bl va vo) w w1) (ra : RowOf w va va1) (ro : RowOf w vo vo1) (hz : bl < w0.heap.size) : NdIs B0 bl bn A c objs va1 vo1 va0 vo0 vp vk x1 n w0 w1 := by
  have hnb : bn ≠ bl := has_ne2 h.lk.box h.node (by decide)
  refine ⟨h1, h.node.keep m ?_, own_keep h.op m (fun g _ hg => ?_), own_keep h.ol m (fun g _ hg => ?_), LkS.trans h.mod m hz h.ra h.ro, rowOf_trans h.ra ra h.mod.size, rowOf_trans h.ro ro h.mod.size, fun g hg hv => ?_⟩
  · rintro (e | e | e)
    · exact hnb e
    · exact absurd rfl (cell_of_has h.node h.lk.oa e (by decide))
    · exact absurd rfl (cell_of_has h.node h.lk.oo e (by decide))
  · rintro (e | e | e)
    · exact absurd e (cell_of_has h.lk.box h.op hg (by decide))
    · obtain ⟨cur, fr, h2⟩ := own_row h.op hg
      obtain ⟨cur', fr', h3⟩ := own_row h.lk.oa e
      rw [h2] at h3
      injection h3 with h3
      injection h3 with _ h3
      exact absurd h3 (by decide)
    · exact h.ap g hg e
  · rintro (e | e | e)
    · exact absurd e (cell_of_has h.lk.box h.ol hg (by decide))
    · obtain ⟨cur, fr, h2⟩ := own_row h.ol hg
      obtain ⟨cur', fr', h3⟩ := own_row h.lk.oa e
      rw [h2] at h3
      injection h3 with h3
      injection h3 with _ h3
      exact absurd h3 (by decide)
    · obtain ⟨cur, fr, h2⟩ := own_row h.ol hg
      obtain ⟨cur', fr', h3⟩ := own_row h.lk.oo e
      rw [h2] at h3
      injection h3 with h3
      injection h3 with _ h3
      exact absurd h3 (by decide)
  · rcases ro g hv with h2 | h2
    · exact h.ap g hg h2
    · have := (h.op.lt g hg).2; omega
theorem NdIs.keep0 {B0 bl bn : Nat} {A : Option Addr} {c : Nat} {objs : List Ob} {va vo va0 vo0 vp vk : Value} {x : LS} {n : PNode} {w0 w w1 : World} (h : NdIs B0 bl bn A c objs va vo va0 vo0 vp vk x n w0 w) (m : Mod (fun _ => False) w w1) (hz : bl < w0.heap.size) : NdIs B0 bl bn A c objs va vo va0 vo0 vp vk x n w0 w1 :=
  h.next (h.lk.keep0 m) (m.mono fun _ _ h => h.elim) (rowOf_same rfl) (rowOf_same rfl) hz
theorem NdIs.nots {B0 bl bn : Nat} {A : Option Addr} {c : Nat} {objs : List Ob} {va vo va0 vo0 vp vk : Value} {x : LS} {n : PNode} {w0 w : World} (h : NdIs B0 bl bn A c objs va vo va0 vo0 vp vk x n w0 w) :
    ¬ LkS bl va vo bn ∧ ∀ g, vk.ownBlock = some g → ¬ LkS bl va vo g := by
  refine ⟨?_, fun g hg => ?_⟩
  · rintro (e | e | e)
    · exact has_ne2 h.lk.box h.node (by decide) e
    · exact absurd rfl (cell_of_has h.node h.lk.oa e (by decide))
    · exact absurd rfl (cell_of_has h.node h.lk.oo e (by decide))
  · rintro (e | e | e)
    · exact absurd e (cell_of_has h.lk.box h.ol hg (by decide))
    · obtain ⟨cur, fr, h2⟩ := own_row h.ol hg
      obtain ⟨cur', fr', h3⟩ := own_row h.lk.oa e
      rw [h2] at h3
      injection h3 with h3
      injection h3 with _ h3
      exact absurd h3 (by decide)
    · obtain ⟨cur, fr, h2⟩ := own_row h.ol hg
      obtain ⟨cur', fr', h3⟩ := own_row h.lk.oo e
      rw [h2] at h3
      injection h3 with h3
      injection h3 with _ h3
      exact absurd h3 (by decide)
set_option maxRecDepth 100000 in
set_option maxHeartbeats 8000000 in
theorem rGoes_step {B0 bl : Nat} {A : Option Addr} {c : Nat} {objs : List Ob} (hob : ObsOk objs) (lo hi : ByteArray) (f : Nat)
    (IH : ∀ (L : Int) (k : Link) (x : LS) (va vo : Value) (w : World), 0 ≤ L → L < f → LOk L k → LkIs B0 bl A c objs va vo x w → x.bad = 0 → Nums L k x →
      Calls Tryd.prog 46 #[.pointer (some ⟨bl, 0, none⟩), .agg #[.string k.last, .string k.id, .int .i64 k.many], .int .i64 L, .string lo, .string hi] w (GoPost B0 bl A c objs va vo (goesS objs lo hi f L k x) w))
    (level : Int) (hlv : level = -1 ∧ 25 ≤ f ∨ 0 ≤ level ∧ level ≤ f) (k : Link) (x : LS) (va vo : Value) (w : World) (hk : LOk level k) (hkm : In64 k.many) (h : LkIs B0 bl A c objs va vo x w) (hb : x.bad = 0) (hn : Nums level k x) :
    Calls Tryd.prog 46 #[.pointer (some ⟨bl, 0, none⟩), .agg #[.string k.last, .string k.id, .int .i64 k.many], .int .i64 level, .string lo, .string hi] w (GoPost B0 bl A c objs va vo (goesN objs lo hi (goesS objs lo hi f) level k x) w) := by
  have hna := need_bad hk
  have hal : (x.asked.length : Int) + 1 ≤ 1000000 := by have := hn.1; omega
  have hm1 := (Mod.refl (fun _ => False) w).alloc (.cells #[.string k.last, .string k.id, .int .i64 k.many] 67)
  have hb1 := Has.new w [.string k.last, .string k.id, .int .i64 k.many] 67
  have h1 := h.keep0 hm1
  have hap := h1.apart
  have hBw : B0 ≤ w.heap.size := by have := h.le; have := h.box.lt; omega
  have hblt := h.box.lt
  have hnb : ¬ (va.ownBlock = some bl ∨ w.heap.size + 1 ≤ bl) := by
    rintro (e | e)
    · exact hap.1 e
    · omega
  have hnp : ¬ (va.ownBlock = some w.heap.size ∨ w.heap.size + 1 ≤ w.heap.size) := by
    rintro (e | e)
    · exact absurd rfl (cell_of_has hb1 h1.oa e (by decide))
    · omega
  have fv0 := fun (w' : World) (mm : Mod (fun k => va.ownBlock = some k ∨ w.heap.size + 1 ≤ k) (w.alloc (.cells #[.string k.last, .string k.id, .int .i64 k.many] 67)).drew w') => (mm.cell (p := ⟨bl, 1, none⟩) h1.box.lt hnb).trans (h1.box.cell (o := 1) rfl)
  have fv1 := fun (w' : World) (mm : Mod (fun k => va.ownBlock = some k ∨ w.heap.size + 1 ≤ k) (w.alloc (.cells #[.string k.last, .string k.id, .int .i64 k.many] 67)).drew w') => (mm.cell (p := ⟨w.heap.size, 1, none⟩) hb1.lt hnp).trans (hb1.cell (o := 1) rfl)
  obtain ⟨y, hy⟩ : ∃ y, goesN objs lo hi (goesS objs lo hi f) level k x = y := ⟨_, rfl⟩
  rw [hy]
  have HY := Lib.hid hy
  have HW1 := Lib.hid h1
  have HB1 := Lib.hid hb1
  have HNB := Lib.hid hnb
  have HNP := Lib.hid hnp
  have HM1 := Lib.hid hm1
  have HIH := Lib.hid IH
  have HNM := Lib.hid hn
  have HK := Lib.hid hk
  have HX0 := Lib.hid hb
  clear hy h1 hb1 hnb hnp hm1 IH h hn hk hb hap
  go_enter Tryd.func46, Tryd.ntmps46
  go_wp2_with fail
  refine region_mT (fun k => va.ownBlock = some k ∨ w.heap.size + 1 ≤ k) (by kernel_rfl) ?_
  simp only [List.length_cons, List.length_nil, List.replicate]
  refine take1T 0 ?_
  refine take1T 1 ?_
  refine take1T 2 ?_
  refine take1T 3 ?_
  refine take1T 4 ?_
  refine take1T 5 ?_
  refine take1T 6 ?_
  refine step1T 7 ?_
  go_simp
  refine ⟨.inl (Mod.alloc (Mod.refl _ _) _), ?_⟩
  refine step1T 8 ?_
  refine appG_step (.tmp 18) (.tmp 21) strs_t B0 va x.asked.length (x.asked.map .string) ((own_keep HW1.out.oa ((Mod.refl (fun _ => False) _).drew) (fun _ _ _ h => h)).alloc _) (some ⟨w.heap.size + 1, 0, none⟩) 1 1 [.string k.id] rfl rfl rfl rfl (cells_lit (by simp)) (by intro u hu; simp at hu; rcases hu with rfl; rfl) (by omega) (by unfold maxLen; omega) (by simp; omega) ?_
  intro v5 w5 ho5 hm5 hr5
  refine ⟨.inl (hm5.mono fun _ _ h => .inl h), ?_⟩
  have hM5 := Mod.trans (((Mod.refl (fun k => va.ownBlock = some k) (w.alloc (.cells #[.string k.last, .string k.id, .int .i64 k.many] 67))).drew).alloc (.cells #[.string k.id] 9)) hm5 (fun _ _ h => h)
  have hbx5 := HW1.out.box.keep hM5 (fun h => HNB.out (.inl h))
  obtain ⟨A5, c5, rfl, _, _, _, _⟩ := own_cells ho5
  have q0 := hbx5.cell (o := 1) rfl
  have r0 := hbx5.frozen 1
  simp only [Act.put, List.setIfInBounds_toArray, List.set_cons_zero, List.set_cons_succ]
  refine take1T 9 ?_
  refine take1T 10 ?_
  refine step1T 11 ?_
  go_simp
  refine ⟨.inr (by kernel_rfl), ?_⟩
  refine wpAnyT_done (by kernel_rfl) ?_
  clear fv0 fv1
  have hwp := HW1.out.putA k.id hM5 ho5
  have hR5 : RowOf w va (.slice A5 (x.asked.length + 1) c5) := rowOf_later hr5 (by simp; omega)
  have hpb5 := HB1.out.keep hM5 (fun h => HNP.out (.inl h))
  have hpb6 := hpb5.other (p := ⟨bl, 1, none⟩) (has_ne2 hbx5 hpb5 (by decide)) (.slice A5 (x.asked.length + 1) c5)
  obtain ⟨w6, hw6⟩ : ∃ w6, w5.setCell ⟨bl, 1, none⟩ (.slice A5 (x.asked.length + 1) c5) = w6 := ⟨_, rfl⟩
  rw [hw6] at hwp hpb6
  rw [hw6]
  have HW6 := Lib.hid hwp.1
  have HM6 := Lib.hid (Mod.trans (HM1.out.mono (S' := LkS bl va vo) fun _ _ h => h.elim) hwp.2 (fun _ _ h => h))
  have HPB6 := Lib.hid hpb6
  have HR5 := Lib.hid hR5
  have hzw : w.heap.size + 1 ≤ w6.heap.size := hpb6.lt
  have HND := Lib.hid (fun w1 (hr : Cells w1 A (objs.flatMap oc)) => rNode_calls A c objs hob k level w1 hr hkm)
  unfold NodePost at HND
  obtain ⟨n, hn⟩ : ∃ n, pnodeOf objs k level = n := ⟨_, rfl⟩
  rw [hn] at HND
  have HN := Lib.hid hn
  obtain ⟨E2, hE2⟩ : ∃ E, pnE n = E := ⟨_, rfl⟩
  obtain ⟨L2, hL2⟩ : ∃ L, pnL n = L := ⟨_, rfl⟩
  obtain ⟨np2, hnp2⟩ : ∃ m, (pnP n).length = m := ⟨_, rfl⟩
  obtain ⟨nk2, hnk2⟩ : ∃ m, (pnK n).length = m := ⟨_, rfl⟩
  rw [hE2, hL2, hnp2, hnk2] at HND
  have HEQ := Lib.hid (And.intro hE2 (And.intro hL2 (And.intro hnp2 hnk2)))
  have fv0 := fun (w' : World) (mm : Mod (fun k => w6.heap.size ≤ k) w6.drew w') => (mm.cell (p := ⟨bl, 0, none⟩) (show bl < w6.drew.heap.size from HW6.out.box.lt) (show ¬ w6.heap.size ≤ bl from by have := HW6.out.box.lt; omega)).trans (HW6.out.box.cell (o := 0) rfl)
  have fv1 := fun (w' : World) (mm : Mod (fun k => w6.heap.size ≤ k) w6.drew w') => (mm.cell (p := ⟨w.heap.size, 0, none⟩) (show w.heap.size < w6.drew.heap.size by exact hzw) (by show ¬ w6.heap.size ≤ w.heap.size; omega)).trans (HPB6.out.cell (o := 0) rfl)
  have fv2 := fun (w' : World) (mm : Mod (fun k => w6.heap.size ≤ k) w6.drew w') => (mm.cell (p := ⟨w.heap.size, 1, none⟩) (show w.heap.size < w6.drew.heap.size by exact hzw) (by show ¬ w6.heap.size ≤ w.heap.size; omega)).trans (HPB6.out.cell (o := 1) rfl)
  have fv3 := fun (w' : World) (mm : Mod (fun k => w6.heap.size ≤ k) w6.drew w') => (mm.cell (p := ⟨w.heap.size, 2, none⟩) (show w.heap.size < w6.drew.heap.size by exact hzw) (by show ¬ w6.heap.size ≤ w.heap.size; omega)).trans (HPB6.out.cell (o := 2) rfl)
  clear hwp hpb5 hpb6 hw6 hM5 hm5 ho5 hr5 hbx5 q0 r0 HW1 HB1 HNB HNP hn hE2 hL2 hnp2 hnk2 hR5 HM1
  go_wp2_with fail
  refine region_mT (fun k => w6.heap.size ≤ k) (by kernel_rfl) ?_
  simp only [List.length_cons, List.length_nil, List.replicate]
  refine take1T 0 ?_
  refine take1T 1 ?_
  refine take1T 2 ?_
  refine take1T 3 ?_
  refine take1T 4 ?_
  refine take1T 5 ?_
  refine two0T (oi := ?o19) (oj := ?p19) 6 10 (by kernel_rfl) ?hi19 ?hj19 ?hw19 ?hx19 ?way19 ?yaw19
  case hi19 => (simp only [List.getElem?_toArray, List.getElem?_cons_zero, List.getElem?_cons_succ]; rfl)
  case hj19 => (simp only [List.getElem?_toArray, List.getElem?_cons_zero, List.getElem?_cons_succ]; rfl)
  case hw19 => rfl
  case hx19 => rfl
  case way19 =>
    go_simp
    refine (HND.out _ (HW6.out.keep0 ((Mod.refl (fun _ => False) w6).drew)).row).mono ?_
    rintro e w8 ⟨vp, vk, rfl, hvp, hvk, hm8⟩
    refine ⟨.inl (hm8.mono fun _ _ h => h.elim), ?_⟩
    obtain ⟨Ap, cp, rfl, _, _, _, _⟩ := own_cells hvp
    obtain ⟨Ak, ck, rfl, _, _, _, _⟩ := own_cells hvk
    have hg8 : w6.heap.size ≤ w8.heap.size := hm8.size
    refine take1T 7 ?_
    refine take1T 8 ?_
    refine take1T 9 ?_
    refine step1T 10 ?_
    go_simp
    refine ⟨.inl (Mod.alloc (Mod.refl _ _) _), ?_⟩
    have hB := Has.new w8 [.slice none 0 0, .int .i64 0, .slice none 0 0] 92
    have k0 := hB.frozen 0
    have q0 := hB.cell (o := 0) rfl
    have k1 := hB.frozen 1
    have q1 := hB.cell (o := 1) rfl
    have k2 := hB.frozen 2
    have q2 := hB.cell (o := 2) rfl
    refine step1T 11 ?_
    go_simp
    refine ⟨.inl (mod_realloc2 hg8), ?_⟩
    have hmA : Mod (fun _ => False) w6 (w8.alloc (.cells #[.slice Ap np2 cp, .int .i64 L2, .slice Ak nk2 ck] 92)) := (Mod.of_drew_l hm8).alloc _
    have hnd : NdIs B0 bl w8.heap.size A c objs (.slice A5 (x.asked.length + 1) c5) vo va vo (.slice Ap np2 cp) (.slice Ak nk2 ck) (x.ask k.id) n w (w8.alloc (.cells #[.slice Ap np2 cp, .int .i64 L2, .slice Ak nk2 ck] 92)) := by
      obtain ⟨e1, e2, e3, e4⟩ := HEQ.out
      have hwz : w.heap.size ≤ w6.drew.heap.size := by show w.heap.size ≤ w6.heap.size; omega
      refine ⟨HW6.out.keep0 hmA, by rw [e2]; exact Has.new w8 _ _, by rw [e3]; exact own_base (hvp.alloc _) hwz, by rw [e4]; exact own_base (hvk.alloc _) hwz, Mod.trans HM6.out hmA (fun _ _ h => h.elim), HR5.out, rowOf_same rfl, fun g hg hvo => ?_⟩
      have h1 := (hvp.lt g hg).1
      have h2 := (HW6.out.oo.lt g hvo).2
      change w6.heap.size ≤ g at h1
      omega
    obtain ⟨bn, hbn⟩ : ∃ bn, w8.heap.size = bn := ⟨_, rfl⟩
    obtain ⟨w9, hw9⟩ : ∃ w9, w8.alloc (.cells #[.slice Ap np2 cp, .int .i64 L2, .slice Ak nk2 ck] 92) = w9 := ⟨_, rfl⟩
    rw [hbn, hw9] at hnd
    rw [hw9, hbn]
    have HND9 := Lib.hid hnd
    clear hnd hmA hm8 hvp hvk hB k0 q0 k1 q1 k2 q2 hbn hw9 hg8
    refine take1T 12 ?_
    refine wpAnyT_done (by kernel_rfl) ?_
    clear fv0 fv1 fv2 fv3 HW6 HPB6 HM6
    have hy := HY.out
    unfold goesN at hy
    rw [HN.out] at hy
    obtain ⟨e1, e2, e3, e4⟩ := HEQ.out
    cases n with
    | bad e =>
      have he : e ≠ 0 := by have := pnode_bad HN.out; omega
      obtain rfl : e = E2 := e1
      have b1 : (e != 0) = true := by simpa using he
      dsimp only at hy
      have c3 := HND9.out.lk.box.cell (o := 3) rfl
      have f3 := HND9.out.lk.box.frozen 3
      obtain ⟨g1, g2⟩ := HND9.out.lk.setBad e
      have hN := HND9.out.next g1 g2 (rowOf_same rfl) (rowOf_same rfl) hblt
      rw [hy] at hN
      have HF := Lib.hid hN
      clear g1 g2 hN hy he e2 e3 e4
      go_wp2_with fail
      go_end0
      exact ⟨rfl, _, _, HF.out.lk, HF.out.mod, HF.out.ra, HF.out.ro⟩
    | leaf ps =>
      obtain rfl : E2 = 0 := e1.symm
      obtain rfl : L2 = 0 := e2.symm
      obtain rfl : ps.length = np2 := e3
      obtain rfl : 0 = nk2 := e4
      dsimp only at hy
      as_aux_lemma =>
        obtain ⟨bb, _, hbb⟩ := pnode_leaf HN.out
        obtain ⟨_, _, _, hpl, _, _⟩ := leaf_facts hbb
        have hnl := need_leaf hbb HK.out
        have hol : (x.out.length : Int) + ps.length ≤ 1000000 := by have := HNM.out.2; omega
        clear hbb hnl
        go_wp2_with fail
        go_loopw [12] (fun i wr => ∃ (j : Nat) (xj : LS) (vj : Value), i = .int .i64 j ∧ j ≤ ps.length ∧ Hid (xj = leafS lo hi (ps.take j) (x.ask k.id) ∧ xj.bad = 0) ∧ Hid (NdIs B0 bl bn A c objs (.slice A5 (x.asked.length + 1) c5) vj va vo (.slice Ap ps.length cp) (.slice Ak 0 ck) xj (.leaf ps) w wr)) (fun i _ => ps.length - (intOf i).toNat)
        case atStart => exact ⟨0, x.ask k.id, vo, by go_num, by omega, Lib.hid ⟨rfl, HX0.out⟩, HND9⟩
        case round =>
          obtain ⟨j, xj, vj, rfl, hj, HX, HD⟩ := hrel
          have n0 := HD.out.node.cell (o := 0) rfl
          by_cases hjl : j < ps.length
          · have j1 : (j : Int) < (ps.length : Int) := by omega
            have j0 : (0 : Int) ≤ (j : Int) := by omega
            obtain ⟨A9, c9, he9, _, hcp, _, _⟩ := own_cells HD.out.op
            obtain ⟨rfl, rfl⟩ : Ap = A9 ∧ cp = c9 := by simpa [pnP] using he9
            rcases hcp with h | ⟨ba, o, rfl, hcell⟩
            · have := flat_len kc_len ps; rw [show ps.flatMap kc = [] from h] at this; simp at this; omega
            have y0 := hcell _ _ (flat_get kc_len ps j 0 hjl (by omega))
            have y1 := hcell _ _ (flat_get kc_len ps j 1 hjl (by omega))
            rw [Nat.add_zero] at y0
            rw [← Nat.add_assoc] at y1
            have hbl : ba < wr.heap.size := World.block_lt_of_cell? wr _ y0
            obtain ⟨Ao, co, rfl, _, _, _, _⟩ := own_cells HD.out.lk.oo
            have hst : leafS lo hi (ps.take (j + 1)) (x.ask k.id) = if isIn lo hi ps[j].key then putP xj ps[j] else xj := by
              rw [HX.out.1, List.take_succ_eq_append_getElem hjl]
              unfold leafS
              rw [List.foldl_append]
              rfl
            have HXL : Hid ((xj.out.length : Int) ≤ 1000000) := Lib.hid (by
              have h := (leafS_asked lo hi (ps.take j) (x.ask k.id)).2
              rw [← HX.out.1, List.length_take] at h
              simp only [LS.ask] at h
              omega)
            obtain ⟨P, hP⟩ : ∃ P, ps[j] = P := ⟨_, rfl⟩
            rw [hP] at y0 y1 hst
            have HST := Lib.hid hst
            clear hcell he9 hP hst
            cases h1 : ltS P.key lo with
            | true =>
              have e1 : Go.Op.bytesLess P.key.toList lo.toList = true := h1
              have HPX : Hid (leafS lo hi (ps.take (j + 1)) (x.ask k.id) = xj) := Lib.hid (by rw [HST.out, if_neg]; unfold isIn; rw [h1]; simp)
              clear h1
              go_wp2_with fail
              go_roundw
              case rel => exact ⟨j + 1, xj, _, by go_num, by omega, Lib.hid ⟨HPX.out.symm, HX.out.2⟩, HD⟩
              case measure => simp [intOf]; omega
            | false =>
              have e1 : Go.Op.bytesLess P.key.toList lo.toList = false := h1
              cases h2 : hi.toList.isEmpty with
              | true =>
                have hin : isIn lo hi P.key = true := by unfold isIn; rw [h1, h2]; rfl
                clear h1
                have HIN := Lib.hid hin
                have g1 := fun (w' : World) (mm : Mod0 wr.drew w') => ((Mod.of_drew_l mm).cell (p := ⟨bl, 2, none⟩) HD.out.lk.box.lt (fun h => h)).trans (HD.out.lk.box.cell (o := 2) rfl)
                have g2 := fun (w' : World) (mm : Mod0 wr.drew w') => ((Mod.of_drew_l mm).cell (p := ⟨bn, 0, none⟩) HD.out.node.lt (fun h => h)).trans (HD.out.node.cell (o := 0) rfl)
                have g3 := fun (w' : World) (mm : Mod0 wr.drew w') => ((Mod.of_drew_l mm).cell (p := ⟨ba, o + j * 2, none⟩) hbl (fun h => h)).trans y0
                clear hin
                rcases Nat.eq_zero_or_pos xj.out.length with hout | hout
                · have d0 : (xj.out.length : Int) = 0 := by omega
                  have HNO : Hid (¬ (xj.out ≠ [] ∧ ltS (lastO xj.out) P.key = false)) := Lib.hid (fun h => h.1 (List.eq_nil_of_length_eq_zero hout))
                  have d1 : decide ((0 : Int) < (xj.out.length : Int)) = false := decide_eq_false (by omega)
                  have d2 : ¬ (0 : Int) < (xj.out.length : Int) := by omega
                  go_wp2_with fail
                  refine region_m (by kernel_rfl) ?_
                  simp only [List.length_cons, List.length_nil, List.replicate]
                  refine take1 0 ?_
                  refine take1 1 ?_
                  refine take1 2 ?_
                  refine take1 3 ?_
                  refine take1 4 ?_
                  refine take1 5 ?_
                  refine take1 6 ?_
                  refine take1 7 ?_
                  refine take1 8 ?_
                  refine take1 9 ?_
                  refine take1 10 ?_
                  refine take1 11 ?_
                  refine take1 12 ?_
                  refine take1 13 ?_
                  refine take1 14 ?_
                  refine take1 15 ?_
                  refine take1 16 ?_
                  refine take1 17 ?_
                  refine take1 18 ?_
                  refine take1 19 ?_
                  refine take1 20 ?_
                  refine take1 21 ?_
                  refine take1 22 ?_
                  refine take1 23 ?_
                  refine take1 24 ?_
                  refine take1 25 ?_
                  refine take1 26 ?_
                  refine take1 27 ?_
                  refine wpAnyM_done (by kernel_rfl) ?_
                  clear g1 g2 g3 d0 d1 d2 hout
                  go_wp2_with fail
                  obtain ⟨wd, hwd⟩ : ∃ wd, wr.drew = wd := ⟨_, rfl⟩
                  have hDd := HD.out.keep0 ((Mod.refl (fun _ => False) wr).drew) hblt
                  rw [hwd] at hDd
                  rw [hwd]
                  have HDD := Lib.hid hDd
                  have y0d : wd.cell? ⟨ba, o + j * 2, none⟩ = some (.string P.key) := by rw [← hwd]; exact y0
                  have y1d : wd.cell? ⟨ba, o + j * 2 + 1, none⟩ = some (.string P.val) := by rw [← hwd]; exact y1
                  have hbld : ba < wd.heap.size := World.block_lt_of_cell? wd _ y0d
                  have hapd := hDd.lk.apart
                  have hnb : ¬ ((Value.slice Ao xj.out.length co).ownBlock = some bl ∨ wd.heap.size ≤ bl) := by
                    rintro (e | e)
                    · exact hapd.2.1 e
                    · have := hDd.lk.box.lt; omega
                  have hnn : ¬ ((Value.slice Ao xj.out.length co).ownBlock = some bn ∨ wd.heap.size ≤ bn) := by
                    rintro (e | e)
                    · exact absurd rfl (cell_of_has hDd.node hDd.lk.oo e (by decide))
                    · have := hDd.node.lt; omega
                  have hnp : ¬ ((Value.slice Ao xj.out.length co).ownBlock = some ba ∨ wd.heap.size ≤ ba) := by
                    rintro (e | e)
                    · exact hDd.ap ba rfl e
                    · omega
                  have gb := fun (w' : World) (mm : Mod (fun g => (Value.slice Ao xj.out.length co).ownBlock = some g ∨ wd.heap.size ≤ g) wd.drew w') => ((Mod.of_drew_l mm).cell (p := ⟨bl, 2, none⟩) hDd.lk.box.lt hnb).trans (hDd.lk.box.cell (o := 2) rfl)
                  have gn := fun (w' : World) (mm : Mod (fun g => (Value.slice Ao xj.out.length co).ownBlock = some g ∨ wd.heap.size ≤ g) wd.drew w') => ((Mod.of_drew_l mm).cell (p := ⟨bn, 0, none⟩) hDd.node.lt hnn).trans (hDd.node.cell (o := 0) rfl)
                  have gy := fun (w' : World) (mm : Mod (fun g => (Value.slice Ao xj.out.length co).ownBlock = some g ∨ wd.heap.size ≤ g) wd.drew w') => ((Mod.of_drew_l mm).cell (p := ⟨ba, o + j * 2, none⟩) hbld hnp).trans y0d
                  have gz := fun (w' : World) (mm : Mod (fun g => (Value.slice Ao xj.out.length co).ownBlock = some g ∨ wd.heap.size ≤ g) wd.drew w') => ((Mod.of_drew_l mm).cell (p := ⟨ba, o + j * 2 + 1, none⟩) hbld hnp).trans y1d
                  have HNB := Lib.hid hnb
                  have hB0d : B0 ≤ wd.heap.size := by have := hDd.lk.box.lt; have := hDd.lk.le; omega
                  have hxl : (xj.out.length : Int) ≤ 1000000 := HXL.out
                  clear hDd hnb hnn hnp hapd hwd y0d y1d hbld
                  go_wp2_with fail
                  refine region_mT (fun g => (Value.slice Ao xj.out.length co).ownBlock = some g ∨ wd.heap.size ≤ g) (by kernel_rfl) ?_
                  simp only [List.length_cons, List.length_nil, List.replicate]
                  refine take1T 0 ?_
                  refine take1T 1 ?_
                  refine take1T 2 ?_
                  refine take1T 3 ?_
                  refine take1T 4 ?_
                  refine take1T 5 ?_
                  refine take1T 6 ?_
                  refine take1T 7 ?_
                  refine take1T 8 ?_
                  refine take1T 9 ?_
                  refine step1T 10 ?_
                  go_simp
                  refine ⟨.inl (Mod.alloc (Mod.refl _ _) _), ?_⟩
                  refine step1T 11 ?_
                  refine appG_step (.tmp 105) (.tmp 111) pair_t B0 (.slice Ao xj.out.length co) xj.out.length (xj.out.flatMap kc) ((own_keep HDD.out.lk.oo ((Mod.refl (fun _ => False) _).drew) (fun _ _ _ h => h)).alloc _) (some ⟨wd.heap.size, 0, none⟩) 1 1 [.string P.key, .string P.val] rfl rfl rfl rfl (cells_lit rfl) (by intro u hu; simp at hu; rcases hu with rfl | rfl <;> rfl) (by omega) (by unfold maxLen; omega) (by simp; omega) ?_
                  intro v7 w7 ho7 hm7 hr7
                  refine ⟨.inl (hm7.mono fun _ _ h => .inl h), ?_⟩
                  have hM7 := Mod.trans (((Mod.refl (fun g => (Value.slice Ao xj.out.length co).ownBlock = some g) wd).drew).alloc (.cells #[.string P.key, .string P.val] 48)) hm7 (fun _ _ h => h)
                  have hbx7 := HDD.out.lk.box.keep hM7 (fun h => HNB.out (.inl h))
                  obtain ⟨A7, c7, rfl, _, _, _, _⟩ := own_cells ho7
                  have q0 := hbx7.cell (o := 2) rfl
                  have r0 := hbx7.frozen 2
                  simp only [Act.put, List.setIfInBounds_toArray, List.set_cons_zero, List.set_cons_succ]
                  refine take1T 12 ?_
                  refine take1T 13 ?_
                  refine step1T 14 ?_
                  go_simp
                  refine ⟨.inr (by kernel_rfl), ?_⟩
                  refine wpAnyT_done (by kernel_rfl) ?_
                  obtain ⟨k1, k2⟩ := HDD.out.lk.putO P hM7 ho7
                  have hR7 : RowOf wd (.slice Ao xj.out.length co) (.slice A7 (xj.out.length + 1) c7) := rowOf_later hr7 (by simp)
                  have hN7 := HDD.out.next k1 k2 (rowOf_same rfl) hR7 hblt
                  have HN7 := Lib.hid hN7
                  have HPX : Hid (leafS lo hi (ps.take (j + 1)) (x.ask k.id) = { xj with out := xj.out ++ [P] }) := Lib.hid (by
                    have h := HST.out
                    rw [if_pos HIN.out] at h
                    rw [h]
                    unfold putP
                    rw [if_neg (fun e => e HX.out.2), if_neg HNO.out])
                  have HBX : Hid (xj.bad = 0) := Lib.hid HX.out.2
                  clear gb gn gy gz hM7 hbx7 q0 r0 k1 k2 hR7 hN7 ho7 hm7 hr7 HNB HDD
                  go_wp2_with fail
                  go_roundw
                  case rel => exact ⟨j + 1, _, _, by go_num, by omega, Lib.hid ⟨HPX.out.symm, HBX.out⟩, HN7⟩
                  case measure => simp [intOf]; omega
                · have d1 : decide ((0 : Int) < (xj.out.length : Int)) = true := decide_eq_true (by omega)
                  have d2 : (0 : Int) < (xj.out.length : Int) := by omega
                  have d3 : (1 : Int) ≤ (xj.out.length : Int) := by omega
                  have w1 : IntKind.i64.wrap ((xj.out.length : Int) - 1) = (xj.out.length : Int) - 1 := by rw [IntKind.wrap_i64]; have := HXL.out; omega
                  have d4 : (0 : Int) ≤ (xj.out.length : Int) - 1 := by omega
                  have d5 : (xj.out.length : Int) - 1 < (xj.out.length : Int) := by omega
                  have d6 : ((xj.out.length : Int) - 1).toNat = xj.out.length - 1 := by omega
                  obtain ⟨A8, c8, he8, _, hco, _, _⟩ := own_cells HD.out.lk.oo
                  obtain ⟨rfl, rfl⟩ : Ao = A8 ∧ co = c8 := by simpa using he8
                  rcases hco with h | ⟨bo, oo, rfl, hcello⟩
                  · have := flat_len kc_len xj.out; rw [h] at this; simp at this; omega
                  have yo := hcello _ _ (flat_get kc_len xj.out (xj.out.length - 1) 0 (by omega) (by omega))
                  have hlo : lastO xj.out = xj.out[xj.out.length - 1].key := by
                    unfold lastO
                    rw [List.getLast?_eq_getElem?, List.getElem?_eq_getElem (by omega)]
                    rfl
                  obtain ⟨Q, hQ⟩ : ∃ Q, xj.out[xj.out.length - 1] = Q := ⟨_, rfl⟩
                  rw [hQ] at yo hlo
                  rw [Nat.add_zero] at yo
                  have hblo : bo < wr.heap.size := World.block_lt_of_cell? wr _ yo
                  have g4 := fun (w' : World) (mm : Mod0 wr.drew w') => ((Mod.of_drew_l mm).cell (p := ⟨bo, oo + (xj.out.length - 1) * 2, none⟩) hblo (fun h => h)).trans yo
                  clear hcello he8 hQ yo hblo
                  cases hlt : ltS Q.key P.key with
                  | true =>
                    have e5 : Go.Op.bytesLess Q.key.toList P.key.toList = true := hlt
                    have HNO : Hid (¬ (xj.out ≠ [] ∧ ltS (lastO xj.out) P.key = false)) := Lib.hid (fun h => by rw [hlo, hlt] at h; cases h.2)
                    clear hlt hlo
                    go_wp2_with fail
                    refine region_m (by kernel_rfl) ?_
                    simp only [List.length_cons, List.length_nil, List.replicate]
                    refine take1 0 ?_
                    refine take1 1 ?_
                    refine take1 2 ?_
                    refine take1 3 ?_
                    refine take1 4 ?_
                    refine take1 5 ?_
                    refine take1 6 ?_
                    refine take1 7 ?_
                    refine take1 8 ?_
                    refine take1 9 ?_
                    refine take1 10 ?_
                    refine take1 11 ?_
                    refine take1 12 ?_
                    refine take1 13 ?_
                    refine take1 14 ?_
                    refine take1 15 ?_
                    refine take1 16 ?_
                    refine take1 17 ?_
                    refine take1 18 ?_
                    refine take1 19 ?_
                    refine take1 20 ?_
                    refine take1 21 ?_
                    refine take1 22 ?_
                    refine take1 23 ?_
                    refine take1 24 ?_
                    refine take1 25 ?_
                    refine take1 26 ?_
                    refine take1 27 ?_
                    refine wpAnyM_done (by kernel_rfl) ?_
                    clear g1 g2 g3 g4 d1 d2 d3 d4 d5 d6 w1 hout e5
                    go_wp2_with fail
                    obtain ⟨wd, hwd⟩ : ∃ wd, wr.drew = wd := ⟨_, rfl⟩
                    have hDd := HD.out.keep0 ((Mod.refl (fun _ => False) wr).drew) hblt
                    rw [hwd] at hDd
                    rw [hwd]
                    have HDD := Lib.hid hDd
                    have y0d : wd.cell? ⟨ba, o + j * 2, none⟩ = some (.string P.key) := by rw [← hwd]; exact y0
                    have y1d : wd.cell? ⟨ba, o + j * 2 + 1, none⟩ = some (.string P.val) := by rw [← hwd]; exact y1
                    have hbld : ba < wd.heap.size := World.block_lt_of_cell? wd _ y0d
                    have hapd := hDd.lk.apart
                    have hnb : ¬ ((Value.slice (some ⟨bo, oo, none⟩) xj.out.length co).ownBlock = some bl ∨ wd.heap.size ≤ bl) := by
                      rintro (e | e)
                      · exact hapd.2.1 e
                      · have := hDd.lk.box.lt; omega
                    have hnn : ¬ ((Value.slice (some ⟨bo, oo, none⟩) xj.out.length co).ownBlock = some bn ∨ wd.heap.size ≤ bn) := by
                      rintro (e | e)
                      · exact absurd rfl (cell_of_has hDd.node hDd.lk.oo e (by decide))
                      · have := hDd.node.lt; omega
                    have hnp : ¬ ((Value.slice (some ⟨bo, oo, none⟩) xj.out.length co).ownBlock = some ba ∨ wd.heap.size ≤ ba) := by
                      rintro (e | e)
                      · exact hDd.ap ba rfl e
                      · omega
                    have gb := fun (w' : World) (mm : Mod (fun g => (Value.slice (some ⟨bo, oo, none⟩) xj.out.length co).ownBlock = some g ∨ wd.heap.size ≤ g) wd.drew w') => ((Mod.of_drew_l mm).cell (p := ⟨bl, 2, none⟩) hDd.lk.box.lt hnb).trans (hDd.lk.box.cell (o := 2) rfl)
                    have gn := fun (w' : World) (mm : Mod (fun g => (Value.slice (some ⟨bo, oo, none⟩) xj.out.length co).ownBlock = some g ∨ wd.heap.size ≤ g) wd.drew w') => ((Mod.of_drew_l mm).cell (p := ⟨bn, 0, none⟩) hDd.node.lt hnn).trans (hDd.node.cell (o := 0) rfl)
                    have gy := fun (w' : World) (mm : Mod (fun g => (Value.slice (some ⟨bo, oo, none⟩) xj.out.length co).ownBlock = some g ∨ wd.heap.size ≤ g) wd.drew w') => ((Mod.of_drew_l mm).cell (p := ⟨ba, o + j * 2, none⟩) hbld hnp).trans y0d
                    have gz := fun (w' : World) (mm : Mod (fun g => (Value.slice (some ⟨bo, oo, none⟩) xj.out.length co).ownBlock = some g ∨ wd.heap.size ≤ g) wd.drew w') => ((Mod.of_drew_l mm).cell (p := ⟨ba, o + j * 2 + 1, none⟩) hbld hnp).trans y1d
                    have HNB := Lib.hid hnb
                    have hB0d : B0 ≤ wd.heap.size := by have := hDd.lk.box.lt; have := hDd.lk.le; omega
                    have hxl : (xj.out.length : Int) ≤ 1000000 := HXL.out
                    clear hDd hnb hnn hnp hapd hwd y0d y1d hbld
                    go_wp2_with fail
                    refine region_mT (fun g => (Value.slice (some ⟨bo, oo, none⟩) xj.out.length co).ownBlock = some g ∨ wd.heap.size ≤ g) (by kernel_rfl) ?_
                    simp only [List.length_cons, List.length_nil, List.replicate]
                    refine take1T 0 ?_
                    refine take1T 1 ?_
                    refine take1T 2 ?_
                    refine take1T 3 ?_
                    refine take1T 4 ?_
                    refine take1T 5 ?_
                    refine take1T 6 ?_
                    refine take1T 7 ?_
                    refine take1T 8 ?_
                    refine take1T 9 ?_
                    refine step1T 10 ?_
                    go_simp
                    refine ⟨.inl (Mod.alloc (Mod.refl _ _) _), ?_⟩
                    refine step1T 11 ?_
                    refine appG_step (.tmp 105) (.tmp 111) pair_t B0 (.slice (some ⟨bo, oo, none⟩) xj.out.length co) xj.out.length (xj.out.flatMap kc) ((own_keep HDD.out.lk.oo ((Mod.refl (fun _ => False) _).drew) (fun _ _ _ h => h)).alloc _) (some ⟨wd.heap.size, 0, none⟩) 1 1 [.string P.key, .string P.val] rfl rfl rfl rfl (cells_lit rfl) (by intro u hu; simp at hu; rcases hu with rfl | rfl <;> rfl) (by omega) (by unfold maxLen; omega) (by simp; omega) ?_
                    intro v7 w7 ho7 hm7 hr7
                    refine ⟨.inl (hm7.mono fun _ _ h => .inl h), ?_⟩
                    have hM7 := Mod.trans (((Mod.refl (fun g => (Value.slice (some ⟨bo, oo, none⟩) xj.out.length co).ownBlock = some g) wd).drew).alloc (.cells #[.string P.key, .string P.val] 48)) hm7 (fun _ _ h => h)
                    have hbx7 := HDD.out.lk.box.keep hM7 (fun h => HNB.out (.inl h))
                    obtain ⟨A7, c7, rfl, _, _, _, _⟩ := own_cells ho7
                    have q0 := hbx7.cell (o := 2) rfl
                    have r0 := hbx7.frozen 2
                    simp only [Act.put, List.setIfInBounds_toArray, List.set_cons_zero, List.set_cons_succ]
                    refine take1T 12 ?_
                    refine take1T 13 ?_
                    refine step1T 14 ?_
                    go_simp
                    refine ⟨.inr (by kernel_rfl), ?_⟩
                    refine wpAnyT_done (by kernel_rfl) ?_
                    obtain ⟨k1, k2⟩ := HDD.out.lk.putO P hM7 ho7
                    have hR7 : RowOf wd (.slice (some ⟨bo, oo, none⟩) xj.out.length co) (.slice A7 (xj.out.length + 1) c7) := rowOf_later hr7 (by simp)
                    have hN7 := HDD.out.next k1 k2 (rowOf_same rfl) hR7 hblt
                    have HN7 := Lib.hid hN7
                    have HPX : Hid (leafS lo hi (ps.take (j + 1)) (x.ask k.id) = { xj with out := xj.out ++ [P] }) := Lib.hid (by
                      have h := HST.out
                      rw [if_pos HIN.out] at h
                      rw [h]
                      unfold putP
                      rw [if_neg (fun e => e HX.out.2), if_neg HNO.out])
                    have HBX : Hid (xj.bad = 0) := Lib.hid HX.out.2
                    clear gb gn gy gz hM7 hbx7 q0 r0 k1 k2 hR7 hN7 ho7 hm7 hr7 HNB HDD
                    go_wp2_with fail
                    go_roundw
                    case rel => exact ⟨j + 1, _, _, by go_num, by omega, Lib.hid ⟨HPX.out.symm, HBX.out⟩, HN7⟩
                    case measure => simp [intOf]; omega
                  | false =>
                    have e5 : Go.Op.bytesLess Q.key.toList P.key.toList = false := hlt
                    have hne : xj.out ≠ [] := fun h => by rw [h] at hout; simp at hout
                    have HPX : Hid (leafS lo hi (ps.take (j + 1)) (x.ask k.id) = { xj with bad := 122 }) := Lib.hid (by
                      have h := HST.out
                      rw [if_pos HIN.out] at h
                      rw [h]
                      unfold putP
                      rw [if_neg (fun e => e HX.out.2), if_pos ⟨hne, by rw [hlo]; exact hlt⟩])
                    have hyb : y = { xj with bad := 122 } := by
                      rw [← hy, ← HPX.out]
                      have e : leafS lo hi ps (x.ask k.id) = leafS lo hi (ps.drop (j + 1)) (leafS lo hi (ps.take (j + 1)) (x.ask k.id)) := by
                        unfold leafS; rw [← List.foldl_append, List.take_append_drop]
                      rw [e]
                      exact leafS_bad lo hi _ _ (by rw [HPX.out]; show (122 : Int) ≠ 0; decide)
                    have hDd := HD.out.keep0 ((Mod.refl (fun _ => False) wr).drew) hblt
                    obtain ⟨k1, k2⟩ := hDd.lk.setBad 122
                    have hN := hDd.next k1 k2 (rowOf_same rfl) (rowOf_same rfl) hblt
                    rw [← hyb] at hN
                    have HF := Lib.hid hN
                    have c3 := HD.out.lk.box.cell (o := 3) rfl
                    have f3 := HD.out.lk.box.frozen 3
                    clear hlt hlo hne hyb hDd k1 k2 hN
                    go_wp2_with fail
                    refine region_m (by kernel_rfl) ?_
                    simp only [List.length_cons, List.length_nil, List.replicate]
                    refine take1 0 ?_
                    refine take1 1 ?_
                    refine take1 2 ?_
                    refine take1 3 ?_
                    refine take1 4 ?_
                    refine take1 5 ?_
                    refine take1 6 ?_
                    refine take1 7 ?_
                    refine take1 8 ?_
                    refine take1 9 ?_
                    refine take1 10 ?_
                    refine take1 11 ?_
                    refine take1 12 ?_
                    refine take1 13 ?_
                    refine take1 14 ?_
                    refine take1 15 ?_
                    refine take1 16 ?_
                    refine take1 17 ?_
                    refine take1 18 ?_
                    refine take1 19 ?_
                    refine take1 20 ?_
                    refine take1 21 ?_
                    refine take1 22 ?_
                    refine take1 23 ?_
                    refine take1 24 ?_
                    refine take1 25 ?_
                    refine take1 26 ?_
                    refine take1 27 ?_
                    refine wpAnyM_done (by kernel_rfl) ?_
                    clear g1 g2 g3 g4
                    go_wp2_with fail
                    go_end0
                    exact ⟨rfl, _, _, HF.out.lk, HF.out.mod, HF.out.ra, HF.out.ro⟩
              | false =>
                cases h3 : ltS P.key hi with
                | true =>
                  have e3 : Go.Op.bytesLess P.key.toList hi.toList = true := h3
                  have hin : isIn lo hi P.key = true := by unfold isIn; rw [h1, h2, h3]; rfl
                  clear h1 h3
                  have HIN := Lib.hid hin
                  have g1 := fun (w' : World) (mm : Mod0 wr.drew w') => ((Mod.of_drew_l mm).cell (p := ⟨bl, 2, none⟩) HD.out.lk.box.lt (fun h => h)).trans (HD.out.lk.box.cell (o := 2) rfl)
                  have g2 := fun (w' : World) (mm : Mod0 wr.drew w') => ((Mod.of_drew_l mm).cell (p := ⟨bn, 0, none⟩) HD.out.node.lt (fun h => h)).trans (HD.out.node.cell (o := 0) rfl)
                  have g3 := fun (w' : World) (mm : Mod0 wr.drew w') => ((Mod.of_drew_l mm).cell (p := ⟨ba, o + j * 2, none⟩) hbl (fun h => h)).trans y0
                  clear hin
                  rcases Nat.eq_zero_or_pos xj.out.length with hout | hout
                  · have d0 : (xj.out.length : Int) = 0 := by omega
                    have HNO : Hid (¬ (xj.out ≠ [] ∧ ltS (lastO xj.out) P.key = false)) := Lib.hid (fun h => h.1 (List.eq_nil_of_length_eq_zero hout))
                    have d1 : decide ((0 : Int) < (xj.out.length : Int)) = false := decide_eq_false (by omega)
                    have d2 : ¬ (0 : Int) < (xj.out.length : Int) := by omega
                    go_wp2_with fail
                    refine region_m (by kernel_rfl) ?_
                    simp only [List.length_cons, List.length_nil, List.replicate]
                    refine take1 0 ?_
                    refine take1 1 ?_
                    refine take1 2 ?_
                    refine take1 3 ?_
                    refine take1 4 ?_
                    refine take1 5 ?_
                    refine take1 6 ?_
                    refine take1 7 ?_
                    refine take1 8 ?_
                    refine take1 9 ?_
                    refine take1 10 ?_
                    refine take1 11 ?_
                    refine take1 12 ?_
                    refine take1 13 ?_
                    refine take1 14 ?_
                    refine take1 15 ?_
                    refine take1 16 ?_
                    refine take1 17 ?_
                    refine take1 18 ?_
                    refine take1 19 ?_
                    refine take1 20 ?_
                    refine take1 21 ?_
                    refine take1 22 ?_
                    refine take1 23 ?_
                    refine take1 24 ?_
                    refine take1 25 ?_
                    refine take1 26 ?_
                    refine take1 27 ?_
                    refine wpAnyM_done (by kernel_rfl) ?_
                    clear g1 g2 g3 d0 d1 d2 hout
                    go_wp2_with fail
                    obtain ⟨wd, hwd⟩ : ∃ wd, wr.drew = wd := ⟨_, rfl⟩
                    have hDd := HD.out.keep0 ((Mod.refl (fun _ => False) wr).drew) hblt
                    rw [hwd] at hDd
                    rw [hwd]
                    have HDD := Lib.hid hDd
                    have y0d : wd.cell? ⟨ba, o + j * 2, none⟩ = some (.string P.key) := by rw [← hwd]; exact y0
                    have y1d : wd.cell? ⟨ba, o + j * 2 + 1, none⟩ = some (.string P.val) := by rw [← hwd]; exact y1
                    have hbld : ba < wd.heap.size := World.block_lt_of_cell? wd _ y0d
                    have hapd := hDd.lk.apart
                    have hnb : ¬ ((Value.slice Ao xj.out.length co).ownBlock = some bl ∨ wd.heap.size ≤ bl) := by
                      rintro (e | e)
                      · exact hapd.2.1 e
                      · have := hDd.lk.box.lt; omega
                    have hnn : ¬ ((Value.slice Ao xj.out.length co).ownBlock = some bn ∨ wd.heap.size ≤ bn) := by
                      rintro (e | e)
                      · exact absurd rfl (cell_of_has hDd.node hDd.lk.oo e (by decide))
                      · have := hDd.node.lt; omega
                    have hnp : ¬ ((Value.slice Ao xj.out.length co).ownBlock = some ba ∨ wd.heap.size ≤ ba) := by
                      rintro (e | e)
                      · exact hDd.ap ba rfl e
                      · omega
                    have gb := fun (w' : World) (mm : Mod (fun g => (Value.slice Ao xj.out.length co).ownBlock = some g ∨ wd.heap.size ≤ g) wd.drew w') => ((Mod.of_drew_l mm).cell (p := ⟨bl, 2, none⟩) hDd.lk.box.lt hnb).trans (hDd.lk.box.cell (o := 2) rfl)
                    have gn := fun (w' : World) (mm : Mod (fun g => (Value.slice Ao xj.out.length co).ownBlock = some g ∨ wd.heap.size ≤ g) wd.drew w') => ((Mod.of_drew_l mm).cell (p := ⟨bn, 0, none⟩) hDd.node.lt hnn).trans (hDd.node.cell (o := 0) rfl)
                    have gy := fun (w' : World) (mm : Mod (fun g => (Value.slice Ao xj.out.length co).ownBlock = some g ∨ wd.heap.size ≤ g) wd.drew w') => ((Mod.of_drew_l mm).cell (p := ⟨ba, o + j * 2, none⟩) hbld hnp).trans y0d
                    have gz := fun (w' : World) (mm : Mod (fun g => (Value.slice Ao xj.out.length co).ownBlock = some g ∨ wd.heap.size ≤ g) wd.drew w') => ((Mod.of_drew_l mm).cell (p := ⟨ba, o + j * 2 + 1, none⟩) hbld hnp).trans y1d
                    have HNB := Lib.hid hnb
                    have hB0d : B0 ≤ wd.heap.size := by have := hDd.lk.box.lt; have := hDd.lk.le; omega
                    have hxl : (xj.out.length : Int) ≤ 1000000 := HXL.out
                    clear hDd hnb hnn hnp hapd hwd y0d y1d hbld
                    go_wp2_with fail
                    refine region_mT (fun g => (Value.slice Ao xj.out.length co).ownBlock = some g ∨ wd.heap.size ≤ g) (by kernel_rfl) ?_
                    simp only [List.length_cons, List.length_nil, List.replicate]
                    refine take1T 0 ?_
                    refine take1T 1 ?_
                    refine take1T 2 ?_
                    refine take1T 3 ?_
                    refine take1T 4 ?_
                    refine take1T 5 ?_
                    refine take1T 6 ?_
                    refine take1T 7 ?_
                    refine take1T 8 ?_
                    refine take1T 9 ?_
                    refine step1T 10 ?_
                    go_simp
                    refine ⟨.inl (Mod.alloc (Mod.refl _ _) _), ?_⟩
                    refine step1T 11 ?_
                    refine appG_step (.tmp 105) (.tmp 111) pair_t B0 (.slice Ao xj.out.length co) xj.out.length (xj.out.flatMap kc) ((own_keep HDD.out.lk.oo ((Mod.refl (fun _ => False) _).drew) (fun _ _ _ h => h)).alloc _) (some ⟨wd.heap.size, 0, none⟩) 1 1 [.string P.key, .string P.val] rfl rfl rfl rfl (cells_lit rfl) (by intro u hu; simp at hu; rcases hu with rfl | rfl <;> rfl) (by omega) (by unfold maxLen; omega) (by simp; omega) ?_
                    intro v7 w7 ho7 hm7 hr7
                    refine ⟨.inl (hm7.mono fun _ _ h => .inl h), ?_⟩
                    have hM7 := Mod.trans (((Mod.refl (fun g => (Value.slice Ao xj.out.length co).ownBlock = some g) wd).drew).alloc (.cells #[.string P.key, .string P.val] 48)) hm7 (fun _ _ h => h)
                    have hbx7 := HDD.out.lk.box.keep hM7 (fun h => HNB.out (.inl h))
                    obtain ⟨A7, c7, rfl, _, _, _, _⟩ := own_cells ho7
                    have q0 := hbx7.cell (o := 2) rfl
                    have r0 := hbx7.frozen 2
                    simp only [Act.put, List.setIfInBounds_toArray, List.set_cons_zero, List.set_cons_succ]
                    refine take1T 12 ?_
                    refine take1T 13 ?_
                    refine step1T 14 ?_
                    go_simp
                    refine ⟨.inr (by kernel_rfl), ?_⟩
                    refine wpAnyT_done (by kernel_rfl) ?_
                    obtain ⟨k1, k2⟩ := HDD.out.lk.putO P hM7 ho7
                    have hR7 : RowOf wd (.slice Ao xj.out.length co) (.slice A7 (xj.out.length + 1) c7) := rowOf_later hr7 (by simp)
                    have hN7 := HDD.out.next k1 k2 (rowOf_same rfl) hR7 hblt
                    have HN7 := Lib.hid hN7
                    have HPX : Hid (leafS lo hi (ps.take (j + 1)) (x.ask k.id) = { xj with out := xj.out ++ [P] }) := Lib.hid (by
                      have h := HST.out
                      rw [if_pos HIN.out] at h
                      rw [h]
                      unfold putP
                      rw [if_neg (fun e => e HX.out.2), if_neg HNO.out])
                    have HBX : Hid (xj.bad = 0) := Lib.hid HX.out.2
                    clear gb gn gy gz hM7 hbx7 q0 r0 k1 k2 hR7 hN7 ho7 hm7 hr7 HNB HDD
                    go_wp2_with fail
                    go_roundw
                    case rel => exact ⟨j + 1, _, _, by go_num, by omega, Lib.hid ⟨HPX.out.symm, HBX.out⟩, HN7⟩
                    case measure => simp [intOf]; omega
                  · have d1 : decide ((0 : Int) < (xj.out.length : Int)) = true := decide_eq_true (by omega)
                    have d2 : (0 : Int) < (xj.out.length : Int) := by omega
                    have d3 : (1 : Int) ≤ (xj.out.length : Int) := by omega
                    have w1 : IntKind.i64.wrap ((xj.out.length : Int) - 1) = (xj.out.length : Int) - 1 := by rw [IntKind.wrap_i64]; have := HXL.out; omega
                    have d4 : (0 : Int) ≤ (xj.out.length : Int) - 1 := by omega
                    have d5 : (xj.out.length : Int) - 1 < (xj.out.length : Int) := by omega
                    have d6 : ((xj.out.length : Int) - 1).toNat = xj.out.length - 1 := by omega
                    obtain ⟨A8, c8, he8, _, hco, _, _⟩ := own_cells HD.out.lk.oo
                    obtain ⟨rfl, rfl⟩ : Ao = A8 ∧ co = c8 := by simpa using he8
                    rcases hco with h | ⟨bo, oo, rfl, hcello⟩
                    · have := flat_len kc_len xj.out; rw [h] at this; simp at this; omega
                    have yo := hcello _ _ (flat_get kc_len xj.out (xj.out.length - 1) 0 (by omega) (by omega))
                    have hlo : lastO xj.out = xj.out[xj.out.length - 1].key := by
                      unfold lastO
                      rw [List.getLast?_eq_getElem?, List.getElem?_eq_getElem (by omega)]
                      rfl
                    obtain ⟨Q, hQ⟩ : ∃ Q, xj.out[xj.out.length - 1] = Q := ⟨_, rfl⟩
                    rw [hQ] at yo hlo
                    rw [Nat.add_zero] at yo
                    have hblo : bo < wr.heap.size := World.block_lt_of_cell? wr _ yo
                    have g4 := fun (w' : World) (mm : Mod0 wr.drew w') => ((Mod.of_drew_l mm).cell (p := ⟨bo, oo + (xj.out.length - 1) * 2, none⟩) hblo (fun h => h)).trans yo
                    clear hcello he8 hQ yo hblo
                    cases hlt : ltS Q.key P.key with
                    | true =>
                      have e5 : Go.Op.bytesLess Q.key.toList P.key.toList = true := hlt
                      have HNO : Hid (¬ (xj.out ≠ [] ∧ ltS (lastO xj.out) P.key = false)) := Lib.hid (fun h => by rw [hlo, hlt] at h; cases h.2)
                      clear hlt hlo
                      go_wp2_with fail
                      refine region_m (by kernel_rfl) ?_
                      simp only [List.length_cons, List.length_nil, List.replicate]
                      refine take1 0 ?_
                      refine take1 1 ?_
                      refine take1 2 ?_
                      refine take1 3 ?_
                      refine take1 4 ?_
                      refine take1 5 ?_
                      refine take1 6 ?_
                      refine take1 7 ?_
                      refine take1 8 ?_
                      refine take1 9 ?_
                      refine take1 10 ?_
                      refine take1 11 ?_
                      refine take1 12 ?_
                      refine take1 13 ?_
                      refine take1 14 ?_
                      refine take1 15 ?_
                      refine take1 16 ?_
                      refine take1 17 ?_
                      refine take1 18 ?_
                      refine take1 19 ?_
                      refine take1 20 ?_
                      refine take1 21 ?_
                      refine take1 22 ?_
                      refine take1 23 ?_
                      refine take1 24 ?_
                      refine take1 25 ?_
                      refine take1 26 ?_
                      refine take1 27 ?_
                      refine wpAnyM_done (by kernel_rfl) ?_
                      clear g1 g2 g3 g4 d1 d2 d3 d4 d5 d6 w1 hout e5
                      go_wp2_with fail
                      obtain ⟨wd, hwd⟩ : ∃ wd, wr.drew = wd := ⟨_, rfl⟩
                      have hDd := HD.out.keep0 ((Mod.refl (fun _ => False) wr).drew) hblt
                      rw [hwd] at hDd
                      rw [hwd]
                      have HDD := Lib.hid hDd
                      have y0d : wd.cell? ⟨ba, o + j * 2, none⟩ = some (.string P.key) := by rw [← hwd]; exact y0
                      have y1d : wd.cell? ⟨ba, o + j * 2 + 1, none⟩ = some (.string P.val) := by rw [← hwd]; exact y1
                      have hbld : ba < wd.heap.size := World.block_lt_of_cell? wd _ y0d
                      have hapd := hDd.lk.apart
                      have hnb : ¬ ((Value.slice (some ⟨bo, oo, none⟩) xj.out.length co).ownBlock = some bl ∨ wd.heap.size ≤ bl) := by
                        rintro (e | e)
                        · exact hapd.2.1 e
                        · have := hDd.lk.box.lt; omega
                      have hnn : ¬ ((Value.slice (some ⟨bo, oo, none⟩) xj.out.length co).ownBlock = some bn ∨ wd.heap.size ≤ bn) := by
                        rintro (e | e)
                        · exact absurd rfl (cell_of_has hDd.node hDd.lk.oo e (by decide))
                        · have := hDd.node.lt; omega
                      have hnp : ¬ ((Value.slice (some ⟨bo, oo, none⟩) xj.out.length co).ownBlock = some ba ∨ wd.heap.size ≤ ba) := by
                        rintro (e | e)
                        · exact hDd.ap ba rfl e
                        · omega
                      have gb := fun (w' : World) (mm : Mod (fun g => (Value.slice (some ⟨bo, oo, none⟩) xj.out.length co).ownBlock = some g ∨ wd.heap.size ≤ g) wd.drew w') => ((Mod.of_drew_l mm).cell (p := ⟨bl, 2, none⟩) hDd.lk.box.lt hnb).trans (hDd.lk.box.cell (o := 2) rfl)
                      have gn := fun (w' : World) (mm : Mod (fun g => (Value.slice (some ⟨bo, oo, none⟩) xj.out.length co).ownBlock = some g ∨ wd.heap.size ≤ g) wd.drew w') => ((Mod.of_drew_l mm).cell (p := ⟨bn, 0, none⟩) hDd.node.lt hnn).trans (hDd.node.cell (o := 0) rfl)
                      have gy := fun (w' : World) (mm : Mod (fun g => (Value.slice (some ⟨bo, oo, none⟩) xj.out.length co).ownBlock = some g ∨ wd.heap.size ≤ g) wd.drew w') => ((Mod.of_drew_l mm).cell (p := ⟨ba, o + j * 2, none⟩) hbld hnp).trans y0d
                      have gz := fun (w' : World) (mm : Mod (fun g => (Value.slice (some ⟨bo, oo, none⟩) xj.out.length co).ownBlock = some g ∨ wd.heap.size ≤ g) wd.drew w') => ((Mod.of_drew_l mm).cell (p := ⟨ba, o + j * 2 + 1, none⟩) hbld hnp).trans y1d
                      have HNB := Lib.hid hnb
                      have hB0d : B0 ≤ wd.heap.size := by have := hDd.lk.box.lt; have := hDd.lk.le; omega
                      have hxl : (xj.out.length : Int) ≤ 1000000 := HXL.out
                      clear hDd hnb hnn hnp hapd hwd y0d y1d hbld
                      go_wp2_with fail
                      refine region_mT (fun g => (Value.slice (some ⟨bo, oo, none⟩) xj.out.length co).ownBlock = some g ∨ wd.heap.size ≤ g) (by kernel_rfl) ?_
                      simp only [List.length_cons, List.length_nil, List.replicate]
                      refine take1T 0 ?_
                      refine take1T 1 ?_
                      refine take1T 2 ?_
                      refine take1T 3 ?_
                      refine take1T 4 ?_
                      refine take1T 5 ?_
                      refine take1T 6 ?_
                      refine take1T 7 ?_
                      refine take1T 8 ?_
                      refine take1T 9 ?_
                      refine step1T 10 ?_
                      go_simp
                      refine ⟨.inl (Mod.alloc (Mod.refl _ _) _), ?_⟩
                      refine step1T 11 ?_
                      refine appG_step (.tmp 105) (.tmp 111) pair_t B0 (.slice (some ⟨bo, oo, none⟩) xj.out.length co) xj.out.length (xj.out.flatMap kc) ((own_keep HDD.out.lk.oo ((Mod.refl (fun _ => False) _).drew) (fun _ _ _ h => h)).alloc _) (some ⟨wd.heap.size, 0, none⟩) 1 1 [.string P.key, .string P.val] rfl rfl rfl rfl (cells_lit rfl) (by intro u hu; simp at hu; rcases hu with rfl | rfl <;> rfl) (by omega) (by unfold maxLen; omega) (by simp; omega) ?_
                      intro v7 w7 ho7 hm7 hr7
                      refine ⟨.inl (hm7.mono fun _ _ h => .inl h), ?_⟩
                      have hM7 := Mod.trans (((Mod.refl (fun g => (Value.slice (some ⟨bo, oo, none⟩) xj.out.length co).ownBlock = some g) wd).drew).alloc (.cells #[.string P.key, .string P.val] 48)) hm7 (fun _ _ h => h)
                      have hbx7 := HDD.out.lk.box.keep hM7 (fun h => HNB.out (.inl h))
                      obtain ⟨A7, c7, rfl, _, _, _, _⟩ := own_cells ho7
                      have q0 := hbx7.cell (o := 2) rfl
                      have r0 := hbx7.frozen 2
                      simp only [Act.put, List.setIfInBounds_toArray, List.set_cons_zero, List.set_cons_succ]
                      refine take1T 12 ?_
                      refine take1T 13 ?_
                      refine step1T 14 ?_
                      go_simp
                      refine ⟨.inr (by kernel_rfl), ?_⟩
                      refine wpAnyT_done (by kernel_rfl) ?_
                      obtain ⟨k1, k2⟩ := HDD.out.lk.putO P hM7 ho7
                      have hR7 : RowOf wd (.slice (some ⟨bo, oo, none⟩) xj.out.length co) (.slice A7 (xj.out.length + 1) c7) := rowOf_later hr7 (by simp)
                      have hN7 := HDD.out.next k1 k2 (rowOf_same rfl) hR7 hblt
                      have HN7 := Lib.hid hN7
                      have HPX : Hid (leafS lo hi (ps.take (j + 1)) (x.ask k.id) = { xj with out := xj.out ++ [P] }) := Lib.hid (by
                        have h := HST.out
                        rw [if_pos HIN.out] at h
                        rw [h]
                        unfold putP
                        rw [if_neg (fun e => e HX.out.2), if_neg HNO.out])
                      have HBX : Hid (xj.bad = 0) := Lib.hid HX.out.2
                      clear gb gn gy gz hM7 hbx7 q0 r0 k1 k2 hR7 hN7 ho7 hm7 hr7 HNB HDD
                      go_wp2_with fail
                      go_roundw
                      case rel => exact ⟨j + 1, _, _, by go_num, by omega, Lib.hid ⟨HPX.out.symm, HBX.out⟩, HN7⟩
                      case measure => simp [intOf]; omega
                    | false =>
                      have e5 : Go.Op.bytesLess Q.key.toList P.key.toList = false := hlt
                      have hne : xj.out ≠ [] := fun h => by rw [h] at hout; simp at hout
                      have HPX : Hid (leafS lo hi (ps.take (j + 1)) (x.ask k.id) = { xj with bad := 122 }) := Lib.hid (by
                        have h := HST.out
                        rw [if_pos HIN.out] at h
                        rw [h]
                        unfold putP
                        rw [if_neg (fun e => e HX.out.2), if_pos ⟨hne, by rw [hlo]; exact hlt⟩])
                      have hyb : y = { xj with bad := 122 } := by
                        rw [← hy, ← HPX.out]
                        have e : leafS lo hi ps (x.ask k.id) = leafS lo hi (ps.drop (j + 1)) (leafS lo hi (ps.take (j + 1)) (x.ask k.id)) := by
                          unfold leafS; rw [← List.foldl_append, List.take_append_drop]
                        rw [e]
                        exact leafS_bad lo hi _ _ (by rw [HPX.out]; show (122 : Int) ≠ 0; decide)
                      have hDd := HD.out.keep0 ((Mod.refl (fun _ => False) wr).drew) hblt
                      obtain ⟨k1, k2⟩ := hDd.lk.setBad 122
                      have hN := hDd.next k1 k2 (rowOf_same rfl) (rowOf_same rfl) hblt
                      rw [← hyb] at hN
                      have HF := Lib.hid hN
                      have c3 := HD.out.lk.box.cell (o := 3) rfl
                      have f3 := HD.out.lk.box.frozen 3
                      clear hlt hlo hne hyb hDd k1 k2 hN
                      go_wp2_with fail
                      refine region_m (by kernel_rfl) ?_
                      simp only [List.length_cons, List.length_nil, List.replicate]
                      refine take1 0 ?_
                      refine take1 1 ?_
                      refine take1 2 ?_
                      refine take1 3 ?_
                      refine take1 4 ?_
                      refine take1 5 ?_
                      refine take1 6 ?_
                      refine take1 7 ?_
                      refine take1 8 ?_
                      refine take1 9 ?_
                      refine take1 10 ?_
                      refine take1 11 ?_
                      refine take1 12 ?_
                      refine take1 13 ?_
                      refine take1 14 ?_
                      refine take1 15 ?_
                      refine take1 16 ?_
                      refine take1 17 ?_
                      refine take1 18 ?_
                      refine take1 19 ?_
                      refine take1 20 ?_
                      refine take1 21 ?_
                      refine take1 22 ?_
                      refine take1 23 ?_
                      refine take1 24 ?_
                      refine take1 25 ?_
                      refine take1 26 ?_
                      refine take1 27 ?_
                      refine wpAnyM_done (by kernel_rfl) ?_
                      clear g1 g2 g3 g4
                      go_wp2_with fail
                      go_end0
                      exact ⟨rfl, _, _, HF.out.lk, HF.out.mod, HF.out.ra, HF.out.ro⟩
                | false =>
                  have e3 : Go.Op.bytesLess P.key.toList hi.toList = false := h3
                  have HPX : Hid (leafS lo hi (ps.take (j + 1)) (x.ask k.id) = xj) := Lib.hid (by rw [HST.out, if_neg]; unfold isIn; rw [h1, h2, h3]; decide)
                  clear h1 h3
                  go_wp2_with fail
                  go_roundw
                  case rel => exact ⟨j + 1, xj, _, by go_num, by omega, Lib.hid ⟨HPX.out.symm, HX.out.2⟩, HD⟩
                  case measure => simp [intOf]; omega
          · have j1 : ¬ (j : Int) < (ps.length : Int) := by omega
            have hjk : j = ps.length := by omega
            have hyx : xj = y := by rw [HX.out.1, hjk, List.take_length]; exact hy
            subst hyx
            have n2 := HD.out.node.cell (o := 2) rfl
            clear hy HX
            go_wp2_with fail
            go_loopw [13] (fun i wr2 => i = .int .i64 0 ∧ wr2 = wr) (fun _ _ => 0)
            case atStart => exact ⟨by go_num, rfl⟩
            case round =>
              obtain ⟨rfl, rfl⟩ := hrel
              go_wp2_with fail
              go_end0
              exact ⟨rfl, _, _, HD.out.lk, HD.out.mod, HD.out.ra, HD.out.ro⟩
    | branch L kids =>
      obtain rfl : E2 = 0 := e1.symm
      obtain rfl : L = L2 := e2
      obtain rfl : 0 = np2 := e3
      obtain rfl : kids.length = nk2 := e4
      dsimp only at hy
      as_aux_lemma =>
        obtain ⟨bb, _, hbb⟩ := pnode_branch HN.out
        have hnb2 := need_branch hbb HK.out
        have hko := kid_ok hbb
        obtain ⟨_, _, _, hLl, hL1, hL2, hkn, hkl, _, _, hkk⟩ := branch_facts hbb
        have hLf : L - 1 < f := by
          rcases hlv with h | h
          · omega
          · rcases hLl with h2 | h2
            · omega
            · have := h2.1; omega
        have hA0 : ((x.ask k.id).asked.length : Int) + L * manyL (kids.drop 0) ≤ 1000000 := by
          have := HNM.out.1
          simp only [LS.ask, List.length_append, List.length_cons, List.length_nil, List.drop_zero]
          omega
        have hO0 : ((x.ask k.id).out.length : Int) + manyL (kids.drop 0) ≤ 1000000 := by
          have := HNM.out.2
          simp only [LS.ask, List.drop_zero]
          omega
        have HKO := Lib.hid hko
        have HKK := Lib.hid hkk
        have hB0 : x.bad = 0 := HX0.out
        have n0z := HND9.out.node.cell (o := 0) rfl
        clear hbb hLl hnb2 hko hkk
        go_wp2_with fail
        clear n0z
        go_loopw [12] (fun i wr2 => i = .int .i64 0 ∧ wr2 = w9) (fun _ _ => 0)
        case atStart => exact ⟨by go_num, rfl⟩
        case round =>
          obtain ⟨rfl, rfl⟩ := hrel
          have n0 := HND9.out.node.cell (o := 0) rfl
          go_wp2_with fail
          clear n0
          go_loopw [13] (fun i wr => ∃ (j : Nat) (xj : LS) (vaj voj : Value), i = .int .i64 j ∧ j ≤ kids.length ∧ Hid (kidsS (goesS objs lo hi f (L - 1)) lo hi (kids.drop j) xj = y) ∧ Hid ((xj.asked.length : Int) + L * manyL (kids.drop j) ≤ 1000000 ∧ (xj.out.length : Int) + manyL (kids.drop j) ≤ 1000000) ∧
            Hid (NdIs B0 bl bn A c objs vaj voj va vo (.slice Ap 0 cp) (.slice Ak kids.length ck) xj (.branch L kids) w wr)) (fun i _ => kids.length - (intOf i).toNat)
          case atStart => exact ⟨0, x.ask k.id, _, vo, by go_num, by omega, Lib.hid (by rw [List.drop_zero]; exact hy), Lib.hid ⟨hA0, hO0⟩, HND9⟩
          case round =>
            clear hy
            obtain ⟨j, xj, vaj, voj, rfl, hj, HKY, HNU, HD⟩ := hrel
            have n1 : wr.cell? ⟨bn, 1, none⟩ = some (.int .i64 L) := HD.out.node.cell (o := 1) rfl
            have n2 := HD.out.node.cell (o := 2) rfl
            have c3 := HD.out.lk.box.cell (o := 3) rfl
            by_cases hjl : j < kids.length
            · have j1 : (j : Int) < (kids.length : Int) := by omega
              have j0 : (0 : Int) ≤ (j : Int) := by omega
              obtain ⟨A9, c9, he9, _, hcp, _, _⟩ := own_cells HD.out.ol
              obtain ⟨rfl, rfl⟩ : Ak = A9 ∧ ck = c9 := by simpa [pnK] using he9
              rcases hcp with h | ⟨ba, o, rfl, hcell⟩
              · have := flat_len lc_len kids; rw [show kids.flatMap lc = [] from h] at this; simp at this; omega
              have y0 := hcell _ _ (flat_get lc_len kids j 0 hjl (by omega))
              have y1 := hcell _ _ (flat_get lc_len kids j 1 hjl (by omega))
              have y2 := hcell _ _ (flat_get lc_len kids j 2 hjl (by omega))
              rw [Nat.add_zero] at y0
              rw [← Nat.add_assoc] at y1 y2
              have hbl : ba < wr.heap.size := World.block_lt_of_cell? wr _ y0
              have hdr := List.drop_eq_getElem_cons hjl
              have hkq := HKK.out _ (List.getElem_mem hjl)
              have hkoq := HKO.out _ (List.getElem_mem hjl)
              obtain ⟨K, hK⟩ : ∃ K, kids[j] = K := ⟨_, rfl⟩
              rw [hK] at y0 y1 y2 hdr hkq hkoq
              have hks := HKY.out
              have hnu := HNU.out
              rw [hdr, manyL_cons, Int.mul_add] at hnu
              rw [hdr] at hks
              unfold kidsS at hks
              have HKE := Lib.hid hK
              have hdp : 0 ≤ manyL (kids.drop (j + 1)) := manyL_pos (fun q hq => ⟨(HKK.out q (List.mem_of_mem_drop hq)).1, (HKK.out q (List.mem_of_mem_drop hq)).2.1⟩)
              have hLp : 0 ≤ L * K.many := Int.mul_nonneg (by omega) (by omega)
              have hLm : 0 ≤ L * manyL (kids.drop (j + 1)) := Int.mul_nonneg (by omega) hdp
              clear hcell he9 hK hdr HKY HNU
              by_cases hbx : xj.bad = 0
              · cases h1 : ltS K.last lo with
                | true =>
                  have e1 : Go.Op.bytesLess K.last.toList lo.toList = true := h1
                  have b0 : (xj.bad == 0) = true := by simpa using hbx
                  rw [show kidS (goesS objs lo hi f (L - 1)) lo K xj = xj by unfold kidS; rw [if_neg (fun e => by rw [h1] at e; cases e.2)]] at hks
                  have HKS := Lib.hid hks
                  have HNU1 : Hid ((xj.asked.length : Int) + L * manyL (kids.drop (j + 1)) ≤ 1000000 ∧ (xj.out.length : Int) + manyL (kids.drop (j + 1)) ≤ 1000000) := Lib.hid (by omega)
                  rw [hbx] at c3
                  clear h1 hks hnu hdp hLp hLm hbx
                  obtain ⟨x1, hx1⟩ : ∃ x1, xj = x1 := ⟨_, rfl⟩
                  rw [hx1] at HKS HNU1
                  have HD1 := HD
                  rw [hx1] at HD1
                  clear hx1
                  have n2z := HD1.out.node.cell (o := 2) rfl
                  obtain ⟨A9, c9, he9, _, hcz, _, _⟩ := own_cells HD1.out.ol
                  obtain ⟨rfl, rfl⟩ : (some ⟨ba, o, none⟩) = A9 ∧ ck = c9 := by simpa [pnK] using he9
                  have y0z : wr.cell? ⟨ba, o + j * 3, none⟩ = some (.string K.last) := by
                    rcases hcz with h | ⟨bz, oz, hz, hcellz⟩
                    · have := flat_len lc_len kids
                      rw [show kids.flatMap lc = [] from h] at this
                      simp at this; omega
                    · obtain ⟨rfl, rfl⟩ : ba = bz ∧ o = oz := by simpa using hz
                      have := hcellz _ _ (flat_get lc_len kids j 0 hjl (by omega))
                      rw [Nat.add_zero, HKE.out] at this
                      exact this
                  clear he9 hcz
                  cases h2 : hi.toList.isEmpty with
                  | true =>
                    have hen : ends hi K.last = false := by unfold ends; rw [h2]; rfl
                    have HK1 : Hid (kidsS (goesS objs lo hi f (L - 1)) lo hi (kids.drop (j + 1)) x1 = y) := Lib.hid (by
                      have h := HKS.out
                      rw [hen, if_neg (by decide)] at h
                      exact h)
                    clear hen
                    go_wp2_with fail
                    go_roundw
                    case rel => exact ⟨j + 1, x1, _, _, by go_num, by omega, HK1, HNU1, HD1⟩
                    case measure => simp [intOf]; omega
                  | false =>
                    cases h3 : ltS K.last hi with
                    | true =>
                      have e3 : Go.Op.bytesLess K.last.toList hi.toList = true := h3
                      have hen : ends hi K.last = false := by unfold ends; rw [h2, h3]; rfl
                      clear h3
                      have HK1 : Hid (kidsS (goesS objs lo hi f (L - 1)) lo hi (kids.drop (j + 1)) x1 = y) := Lib.hid (by
                        have h := HKS.out
                        rw [hen, if_neg (by decide)] at h
                        exact h)
                      clear hen
                      go_wp2_with fail
                      go_roundw
                      case rel => exact ⟨j + 1, x1, _, _, by go_num, by omega, HK1, HNU1, HD1⟩
                      case measure => simp [intOf]; omega
                    | false =>
                      have e3 : Go.Op.bytesLess K.last.toList hi.toList = false := h3
                      have hxy : x1 = y := by
                        have h := HKS.out
                        rw [show ends hi K.last = true by unfold ends; rw [h2, h3]; rfl, if_pos rfl] at h
                        exact h
                      subst hxy
                      clear h3 HKS
                      go_wp2_with fail
                      go_end0
                      exact ⟨rfl, _, _, HD1.out.lk, HD1.out.mod, HD1.out.ra, HD1.out.ro⟩
                | false =>
                  have e1 : Go.Op.bytesLess K.last.toList lo.toList = false := h1
                  have b0 : (xj.bad == 0) = true := by simpa using hbx
                  have hgl := goes_len objs lo hi f (L - 1) K xj hkoq.1
                  rw [hkoq.2.1, hkoq.2.2] at hgl
                  rw [show kidS (goesS objs lo hi f (L - 1)) lo K xj = goesS objs lo hi f (L - 1) K xj by unfold kidS; rw [if_pos ⟨hbx, h1⟩]] at hks
                  have hDd := HD.out.keep0 ((Mod.refl (fun _ => False) wr).drew) hblt
                  have hca := HIH.out (L - 1) K xj vaj voj wr.drew (by omega) hLf hkoq.1 hDd.lk hbx ⟨by rw [hkoq.2.1]; omega, by rw [hkoq.2.2]; omega⟩
                  unfold GoPost at hca
                  generalize goesS objs lo hi f (L - 1) K xj = x1 at hks hgl hca
                  have HKS := Lib.hid hks
                  have HCA := Lib.hid hca
                  have HNU1 : Hid ((x1.asked.length : Int) + L * manyL (kids.drop (j + 1)) ≤ 1000000 ∧ (x1.out.length : Int) + manyL (kids.drop (j + 1)) ≤ 1000000) := Lib.hid (by omega)
                  have HDd := Lib.hid hDd
                  have hnt := HD.out.nots
                  have hnn := hnt.1
                  have hna2 := hnt.2 ba rfl
                  have gn1 := fun (w' : World) (mm : Mod (fun g => LkS bl vaj voj g) wr.drew w') => ((Mod.of_drew_l mm).cell (p := ⟨bn, 1, none⟩) HD.out.node.lt hnn).trans n1
                  have gn2 := fun (w' : World) (mm : Mod (fun g => LkS bl vaj voj g) wr.drew w') => ((Mod.of_drew_l mm).cell (p := ⟨bn, 2, none⟩) HD.out.node.lt hnn).trans n2
                  have gy0 := fun (w' : World) (mm : Mod (fun g => LkS bl vaj voj g) wr.drew w') => ((Mod.of_drew_l mm).cell (p := ⟨ba, o + j * 3, none⟩) hbl hna2).trans y0
                  have gy1 := fun (w' : World) (mm : Mod (fun g => LkS bl vaj voj g) wr.drew w') => ((Mod.of_drew_l mm).cell (p := ⟨ba, o + j * 3 + 1, none⟩) hbl hna2).trans y1
                  have gy2 := fun (w' : World) (mm : Mod (fun g => LkS bl vaj voj g) wr.drew w') => ((Mod.of_drew_l mm).cell (p := ⟨ba, o + j * 3 + 2, none⟩) hbl hna2).trans y2
                  have w1 : IntKind.i64.wrap (L - 1) = L - 1 := by rw [IntKind.wrap_i64]; omega
                  rw [hbx] at c3
                  clear h1 hks hnu hdp hLp hLm hbx hgl hca hDd hnt hnn hna2
                  go_wp2_with fail
                  refine region_mT (fun g => LkS bl vaj voj g) (by kernel_rfl) ?_
                  simp only [List.length_cons, List.length_nil, List.replicate]
                  refine take1T 0 ?_
                  refine take1T 1 ?_
                  refine take1T 2 ?_
                  refine take1T 3 ?_
                  refine take1T 4 ?_
                  refine take1T 5 ?_
                  refine take1T 6 ?_
                  refine take1T 7 ?_
                  refine take1T 8 ?_
                  refine take1T 9 ?_
                  refine take1T 10 ?_
                  refine take1T 11 ?_
                  refine take1T 12 ?_
                  refine step1T 13 ?_
                  go_simp
                  refine HCA.out.mono ?_
                  rintro e w1 ⟨rfl, va1, vo1, hlk1, hm1, hra1, hro1⟩
                  refine ⟨.inl hm1, ?_⟩
                  refine wpAnyT_done (by kernel_rfl) ?_
                  have HD1 := Lib.hid (HDd.out.next hlk1 hm1 hra1 hro1 hblt)
                  clear gn1 gn2 gy0 gy1 gy2 hlk1 hm1 hra1 hro1 HCA HDd n1 n2 c3 y0 y1 y2
                  have n2z := HD1.out.node.cell (o := 2) rfl
                  obtain ⟨A9, c9, he9, _, hcz, _, _⟩ := own_cells HD1.out.ol
                  obtain ⟨rfl, rfl⟩ : (some ⟨ba, o, none⟩) = A9 ∧ ck = c9 := by simpa [pnK] using he9
                  have y0z : w1.cell? ⟨ba, o + j * 3, none⟩ = some (.string K.last) := by
                    rcases hcz with h | ⟨bz, oz, hz, hcellz⟩
                    · have := flat_len lc_len kids
                      rw [show kids.flatMap lc = [] from h] at this
                      simp at this; omega
                    · obtain ⟨rfl, rfl⟩ : ba = bz ∧ o = oz := by simpa using hz
                      have := hcellz _ _ (flat_get lc_len kids j 0 hjl (by omega))
                      rw [Nat.add_zero, HKE.out] at this
                      exact this
                  clear he9 hcz
                  cases h2 : hi.toList.isEmpty with
                  | true =>
                    have hen : ends hi K.last = false := by unfold ends; rw [h2]; rfl
                    have HK1 : Hid (kidsS (goesS objs lo hi f (L - 1)) lo hi (kids.drop (j + 1)) x1 = y) := Lib.hid (by
                      have h := HKS.out
                      rw [hen, if_neg (by decide)] at h
                      exact h)
                    clear hen
                    go_wp2_with fail
                    go_roundw
                    case rel => exact ⟨j + 1, x1, _, _, by go_num, by omega, HK1, HNU1, HD1⟩
                    case measure => simp [intOf]; omega
                  | false =>
                    cases h3 : ltS K.last hi with
                    | true =>
                      have e3 : Go.Op.bytesLess K.last.toList hi.toList = true := h3
                      have hen : ends hi K.last = false := by unfold ends; rw [h2, h3]; rfl
                      clear h3
                      have HK1 : Hid (kidsS (goesS objs lo hi f (L - 1)) lo hi (kids.drop (j + 1)) x1 = y) := Lib.hid (by
                        have h := HKS.out
                        rw [hen, if_neg (by decide)] at h
                        exact h)
                      clear hen
                      go_wp2_with fail
                      go_roundw
                      case rel => exact ⟨j + 1, x1, _, _, by go_num, by omega, HK1, HNU1, HD1⟩
                      case measure => simp [intOf]; omega
                    | false =>
                      have e3 : Go.Op.bytesLess K.last.toList hi.toList = false := h3
                      have hxy : x1 = y := by
                        have h := HKS.out
                        rw [show ends hi K.last = true by unfold ends; rw [h2, h3]; rfl, if_pos rfl] at h
                        exact h
                      subst hxy
                      clear h3 HKS
                      go_wp2_with fail
                      go_end0
                      exact ⟨rfl, _, _, HD1.out.lk, HD1.out.mod, HD1.out.ra, HD1.out.ro⟩
              · have b0 : (xj.bad == 0) = false := by simpa using hbx
                rw [show kidS (goesS objs lo hi f (L - 1)) lo K xj = xj by unfold kidS; rw [if_neg (fun e => hbx e.1)]] at hks
                have HKS := Lib.hid hks
                have HNU1 : Hid ((xj.asked.length : Int) + L * manyL (kids.drop (j + 1)) ≤ 1000000 ∧ (xj.out.length : Int) + manyL (kids.drop (j + 1)) ≤ 1000000) := Lib.hid (by omega)
                clear hks hnu hdp hLp hLm
                obtain ⟨x1, hx1⟩ : ∃ x1, xj = x1 := ⟨_, rfl⟩
                rw [hx1] at HKS HNU1
                have HD1 := HD
                rw [hx1] at HD1
                clear hx1
                have n2z := HD1.out.node.cell (o := 2) rfl
                obtain ⟨A9, c9, he9, _, hcz, _, _⟩ := own_cells HD1.out.ol
                obtain ⟨rfl, rfl⟩ : (some ⟨ba, o, none⟩) = A9 ∧ ck = c9 := by simpa [pnK] using he9
                have y0z : wr.cell? ⟨ba, o + j * 3, none⟩ = some (.string K.last) := by
                  rcases hcz with h | ⟨bz, oz, hz, hcellz⟩
                  · have := flat_len lc_len kids
                    rw [show kids.flatMap lc = [] from h] at this
                    simp at this; omega
                  · obtain ⟨rfl, rfl⟩ : ba = bz ∧ o = oz := by simpa using hz
                    have := hcellz _ _ (flat_get lc_len kids j 0 hjl (by omega))
                    rw [Nat.add_zero, HKE.out] at this
                    exact this
                clear he9 hcz
                cases h2 : hi.toList.isEmpty with
                | true =>
                  have hen : ends hi K.last = false := by unfold ends; rw [h2]; rfl
                  have HK1 : Hid (kidsS (goesS objs lo hi f (L - 1)) lo hi (kids.drop (j + 1)) x1 = y) := Lib.hid (by
                    have h := HKS.out
                    rw [hen, if_neg (by decide)] at h
                    exact h)
                  clear hen
                  go_wp2_with fail
                  go_roundw
                  case rel => exact ⟨j + 1, x1, _, _, by go_num, by omega, HK1, HNU1, HD1⟩
                  case measure => simp [intOf]; omega
                | false =>
                  cases h3 : ltS K.last hi with
                  | true =>
                    have e3 : Go.Op.bytesLess K.last.toList hi.toList = true := h3
                    have hen : ends hi K.last = false := by unfold ends; rw [h2, h3]; rfl
                    clear h3
                    have HK1 : Hid (kidsS (goesS objs lo hi f (L - 1)) lo hi (kids.drop (j + 1)) x1 = y) := Lib.hid (by
                      have h := HKS.out
                      rw [hen, if_neg (by decide)] at h
                      exact h)
                    clear hen
                    go_wp2_with fail
                    go_roundw
                    case rel => exact ⟨j + 1, x1, _, _, by go_num, by omega, HK1, HNU1, HD1⟩
                    case measure => simp [intOf]; omega
                  | false =>
                    have e3 : Go.Op.bytesLess K.last.toList hi.toList = false := h3
                    have hxy : x1 = y := by
                      have h := HKS.out
                      rw [show ends hi K.last = true by unfold ends; rw [h2, h3]; rfl, if_pos rfl] at h
                      exact h
                    subst hxy
                    clear h3 HKS
                    go_wp2_with fail
                    go_end0
                    exact ⟨rfl, _, _, HD1.out.lk, HD1.out.mod, HD1.out.ra, HD1.out.ro⟩
            · have j1 : ¬ (j : Int) < (kids.length : Int) := by omega
              have hxy : xj = y := by
                rw [← HKY.out, List.drop_of_length_le (by omega)]
                rfl
              subst hxy
              clear HKY HNU
              go_wp2_with fail
              go_end0
              exact ⟨rfl, _, _, HD.out.lk, HD.out.mod, HD.out.ra, HD.out.ro⟩
  case yaw19 =>
    go_simp
    refine ⟨.inl (Mod.alloc (Mod.refl _ _) _), ?_⟩
    refine step1T 6 ?_
    go_simp
    refine (HND.out _ ((HW6.out.keep0 ((Mod.refl (fun _ => False) w6).drew)).keep0 ((Mod.refl (fun _ => False) _).alloc _)).row).mono ?_
    rintro e w8 ⟨vp, vk, rfl, hvp, hvk, hm8⟩
    refine ⟨.inl (hm8.mono fun _ _ h => h.elim), ?_⟩
    obtain ⟨Ap, cp, rfl, _, _, _, _⟩ := own_cells hvp
    obtain ⟨Ak, ck, rfl, _, _, _, _⟩ := own_cells hvk
    have hB := (Has.new w6.drew [.slice none 0 0, .int .i64 0, .slice none 0 0] 92).keep hm8 (fun h => h)
    change Has w8 w6.heap.size _ _ at hB
    have k0 := hB.frozen 0
    have q0 := hB.cell (o := 0) rfl
    have k1 := hB.frozen 1
    have q1 := hB.cell (o := 1) rfl
    have k2 := hB.frozen 2
    have q2 := hB.cell (o := 2) rfl
    refine take1T 7 ?_
    refine take1T 8 ?_
    refine take1T 9 ?_
    refine step1T 11 ?_
    go_simp
    refine ⟨.inl ((((Mod.refl (fun k => w6.heap.size ≤ k) w8).set1 (Nat.le_refl _) 0 _).set1 (Nat.le_refl _) 1 _).set1 (Nat.le_refl _) 2 _), ?_⟩
    have hms := (((Mod.refl (fun k => k = w6.heap.size) w8).set1 rfl 0 (.slice Ap np2 cp)).set1 rfl 1 (.int .i64 L2)).set1 rfl 2 (.slice Ak nk2 ck)
    have hmA : Mod (fun _ => False) w6 (((w8.setCell ⟨w6.heap.size, 0, none⟩ (.slice Ap np2 cp)).setCell ⟨w6.heap.size, 1, none⟩ (.int .i64 L2)).setCell ⟨w6.heap.size, 2, none⟩ (.slice Ak nk2 ck)) := Mod.trans (Mod.trans ((Mod.refl (fun _ => False) w6).drew.alloc (.cells #[.slice none 0 0, .int .i64 0, .slice none 0 0] 92)) hm8 (fun _ _ h => h)) hms (fun i hi e => by omega)
    have hnd : NdIs B0 bl w6.heap.size A c objs (.slice A5 (x.asked.length + 1) c5) vo va vo (.slice Ap np2 cp) (.slice Ak nk2 ck) (x.ask k.id) n w (((w8.setCell ⟨w6.heap.size, 0, none⟩ (.slice Ap np2 cp)).setCell ⟨w6.heap.size, 1, none⟩ (.int .i64 L2)).setCell ⟨w6.heap.size, 2, none⟩ (.slice Ak nk2 ck)) := by
      obtain ⟨e1, e2, e3, e4⟩ := HEQ.out
      have hwz : w.heap.size ≤ (w6.drew.alloc (.cells #[.slice none 0 0, .int .i64 0, .slice none 0 0] 92)).heap.size := by
        rw [World.size_alloc]
        show w.heap.size ≤ w6.heap.size + 1
        omega
      refine ⟨HW6.out.keep0 hmA, by rw [e2]; exact ((hB.set 0 _).set 1 _).set 2 _, by rw [e3]; exact own_base (own_other hvp hB (by decide) hms) hwz, by rw [e4]; exact own_base (own_other hvk hB (by decide) hms) hwz, Mod.trans HM6.out hmA (fun _ _ h => h.elim), HR5.out, rowOf_same rfl, fun g hg hvo => ?_⟩
      have h1 := (hvp.lt g hg).1
      have h2 := (HW6.out.oo.lt g hvo).2
      rw [World.size_alloc] at h1
      change w6.heap.size + 1 ≤ g at h1
      omega
    obtain ⟨w9, hw9⟩ : ∃ w9, ((w8.setCell ⟨w6.heap.size, 0, none⟩ (.slice Ap np2 cp)).setCell ⟨w6.heap.size, 1, none⟩ (.int .i64 L2)).setCell ⟨w6.heap.size, 2, none⟩ (.slice Ak nk2 ck) = w9 := ⟨_, rfl⟩
    rw [hw9] at hnd
    rw [hw9]
    obtain ⟨bn, hbn⟩ : ∃ bn, w6.heap.size = bn := ⟨_, rfl⟩
    rw [hbn] at hnd
    rw [hbn]
    have HND9 := Lib.hid hnd
    clear hnd hmA hms hm8 hvp hvk hB k0 q0 k1 q1 k2 q2 hbn hw9
    refine take1T 12 ?_
    refine wpAnyT_done (by kernel_rfl) ?_
    clear fv0 fv1 fv2 fv3 HW6 HPB6 HM6
    have hy := HY.out
    unfold goesN at hy
    rw [HN.out] at hy
    obtain ⟨e1, e2, e3, e4⟩ := HEQ.out
    cases n with
    | bad e =>
      have he : e ≠ 0 := by have := pnode_bad HN.out; omega
      obtain rfl : e = E2 := e1
      have b1 : (e != 0) = true := by simpa using he
      dsimp only at hy
      have c3 := HND9.out.lk.box.cell (o := 3) rfl
      have f3 := HND9.out.lk.box.frozen 3
      obtain ⟨g1, g2⟩ := HND9.out.lk.setBad e
      have hN := HND9.out.next g1 g2 (rowOf_same rfl) (rowOf_same rfl) hblt
      rw [hy] at hN
      have HF := Lib.hid hN
      clear g1 g2 hN hy he e2 e3 e4
      go_wp2_with fail
      go_end0
      exact ⟨rfl, _, _, HF.out.lk, HF.out.mod, HF.out.ra, HF.out.ro⟩
    | leaf ps =>
      obtain rfl : E2 = 0 := e1.symm
      obtain rfl : L2 = 0 := e2.symm
      obtain rfl : ps.length = np2 := e3
      obtain rfl : 0 = nk2 := e4
      dsimp only at hy
      as_aux_lemma =>
        obtain ⟨bb, _, hbb⟩ := pnode_leaf HN.out
        obtain ⟨_, _, _, hpl, _, _⟩ := leaf_facts hbb
        have hnl := need_leaf hbb HK.out
        have hol : (x.out.length : Int) + ps.length ≤ 1000000 := by have := HNM.out.2; omega
        clear hbb hnl
        go_wp2_with fail
        go_loopw [12] (fun i wr => ∃ (j : Nat) (xj : LS) (vj : Value), i = .int .i64 j ∧ j ≤ ps.length ∧ Hid (xj = leafS lo hi (ps.take j) (x.ask k.id) ∧ xj.bad = 0) ∧ Hid (NdIs B0 bl bn A c objs (.slice A5 (x.asked.length + 1) c5) vj va vo (.slice Ap ps.length cp) (.slice Ak 0 ck) xj (.leaf ps) w wr)) (fun i _ => ps.length - (intOf i).toNat)
        case atStart => exact ⟨0, x.ask k.id, vo, by go_num, by omega, Lib.hid ⟨rfl, HX0.out⟩, HND9⟩
        case round =>
          obtain ⟨j, xj, vj, rfl, hj, HX, HD⟩ := hrel
          have n0 := HD.out.node.cell (o := 0) rfl
          by_cases hjl : j < ps.length
          · have j1 : (j : Int) < (ps.length : Int) := by omega
            have j0 : (0 : Int) ≤ (j : Int) := by omega
            obtain ⟨A9, c9, he9, _, hcp, _, _⟩ := own_cells HD.out.op
            obtain ⟨rfl, rfl⟩ : Ap = A9 ∧ cp = c9 := by simpa [pnP] using he9
            rcases hcp with h | ⟨ba, o, rfl, hcell⟩
            · have := flat_len kc_len ps; rw [show ps.flatMap kc = [] from h] at this; simp at this; omega
            have y0 := hcell _ _ (flat_get kc_len ps j 0 hjl (by omega))
            have y1 := hcell _ _ (flat_get kc_len ps j 1 hjl (by omega))
            rw [Nat.add_zero] at y0
            rw [← Nat.add_assoc] at y1
            have hbl : ba < wr.heap.size := World.block_lt_of_cell? wr _ y0
            obtain ⟨Ao, co, rfl, _, _, _, _⟩ := own_cells HD.out.lk.oo
            have hst : leafS lo hi (ps.take (j + 1)) (x.ask k.id) = if isIn lo hi ps[j].key then putP xj ps[j] else xj := by
              rw [HX.out.1, List.take_succ_eq_append_getElem hjl]
              unfold leafS
              rw [List.foldl_append]
              rfl
            have HXL : Hid ((xj.out.length : Int) ≤ 1000000) := Lib.hid (by
              have h := (leafS_asked lo hi (ps.take j) (x.ask k.id)).2
              rw [← HX.out.1, List.length_take] at h
              simp only [LS.ask] at h
              omega)
            obtain ⟨P, hP⟩ : ∃ P, ps[j] = P := ⟨_, rfl⟩
            rw [hP] at y0 y1 hst
            have HST := Lib.hid hst
            clear hcell he9 hP hst
            cases h1 : ltS P.key lo with
            | true =>
              have e1 : Go.Op.bytesLess P.key.toList lo.toList = true := h1
              have HPX : Hid (leafS lo hi (ps.take (j + 1)) (x.ask k.id) = xj) := Lib.hid (by rw [HST.out, if_neg]; unfold isIn; rw [h1]; simp)
              clear h1
              go_wp2_with fail
              go_roundw
              case rel => exact ⟨j + 1, xj, _, by go_num, by omega, Lib.hid ⟨HPX.out.symm, HX.out.2⟩, HD⟩
              case measure => simp [intOf]; omega
            | false =>
              have e1 : Go.Op.bytesLess P.key.toList lo.toList = false := h1
              cases h2 : hi.toList.isEmpty with
              | true =>
                have hin : isIn lo hi P.key = true := by unfold isIn; rw [h1, h2]; rfl
                clear h1
                have HIN := Lib.hid hin
                have g1 := fun (w' : World) (mm : Mod0 wr.drew w') => ((Mod.of_drew_l mm).cell (p := ⟨bl, 2, none⟩) HD.out.lk.box.lt (fun h => h)).trans (HD.out.lk.box.cell (o := 2) rfl)
                have g2 := fun (w' : World) (mm : Mod0 wr.drew w') => ((Mod.of_drew_l mm).cell (p := ⟨bn, 0, none⟩) HD.out.node.lt (fun h => h)).trans (HD.out.node.cell (o := 0) rfl)
                have g3 := fun (w' : World) (mm : Mod0 wr.drew w') => ((Mod.of_drew_l mm).cell (p := ⟨ba, o + j * 2, none⟩) hbl (fun h => h)).trans y0
                clear hin
                rcases Nat.eq_zero_or_pos xj.out.length with hout | hout
                · have d0 : (xj.out.length : Int) = 0 := by omega
                  have HNO : Hid (¬ (xj.out ≠ [] ∧ ltS (lastO xj.out) P.key = false)) := Lib.hid (fun h => h.1 (List.eq_nil_of_length_eq_zero hout))
                  have d1 : decide ((0 : Int) < (xj.out.length : Int)) = false := decide_eq_false (by omega)
                  have d2 : ¬ (0 : Int) < (xj.out.length : Int) := by omega
                  go_wp2_with fail
                  refine region_m (by kernel_rfl) ?_
                  simp only [List.length_cons, List.length_nil, List.replicate]
                  refine take1 0 ?_
                  refine take1 1 ?_
                  refine take1 2 ?_
                  refine take1 3 ?_
                  refine take1 4 ?_
                  refine take1 5 ?_
                  refine take1 6 ?_
                  refine take1 7 ?_
                  refine take1 8 ?_
                  refine take1 9 ?_
                  refine take1 10 ?_
                  refine take1 11 ?_
                  refine take1 12 ?_
                  refine take1 13 ?_
                  refine take1 14 ?_
                  refine take1 15 ?_
                  refine take1 16 ?_
                  refine take1 17 ?_
                  refine take1 18 ?_
                  refine take1 19 ?_
                  refine take1 20 ?_
                  refine take1 21 ?_
                  refine take1 22 ?_
                  refine take1 23 ?_
                  refine take1 24 ?_
                  refine take1 25 ?_
                  refine take1 26 ?_
                  refine take1 27 ?_
                  refine wpAnyM_done (by kernel_rfl) ?_
                  clear g1 g2 g3 d0 d1 d2 hout
                  go_wp2_with fail
                  obtain ⟨wd, hwd⟩ : ∃ wd, wr.drew = wd := ⟨_, rfl⟩
                  have hDd := HD.out.keep0 ((Mod.refl (fun _ => False) wr).drew) hblt
                  rw [hwd] at hDd
                  rw [hwd]
                  have HDD := Lib.hid hDd
                  have y0d : wd.cell? ⟨ba, o + j * 2, none⟩ = some (.string P.key) := by rw [← hwd]; exact y0
                  have y1d : wd.cell? ⟨ba, o + j * 2 + 1, none⟩ = some (.string P.val) := by rw [← hwd]; exact y1
                  have hbld : ba < wd.heap.size := World.block_lt_of_cell? wd _ y0d
                  have hapd := hDd.lk.apart
                  have hnb : ¬ ((Value.slice Ao xj.out.length co).ownBlock = some bl ∨ wd.heap.size ≤ bl) := by
                    rintro (e | e)
                    · exact hapd.2.1 e
                    · have := hDd.lk.box.lt; omega
                  have hnn : ¬ ((Value.slice Ao xj.out.length co).ownBlock = some bn ∨ wd.heap.size ≤ bn) := by
                    rintro (e | e)
                    · exact absurd rfl (cell_of_has hDd.node hDd.lk.oo e (by decide))
                    · have := hDd.node.lt; omega
                  have hnp : ¬ ((Value.slice Ao xj.out.length co).ownBlock = some ba ∨ wd.heap.size ≤ ba) := by
                    rintro (e | e)
                    · exact hDd.ap ba rfl e
                    · omega
                  have gb := fun (w' : World) (mm : Mod (fun g => (Value.slice Ao xj.out.length co).ownBlock = some g ∨ wd.heap.size ≤ g) wd.drew w') => ((Mod.of_drew_l mm).cell (p := ⟨bl, 2, none⟩) hDd.lk.box.lt hnb).trans (hDd.lk.box.cell (o := 2) rfl)
                  have gn := fun (w' : World) (mm : Mod (fun g => (Value.slice Ao xj.out.length co).ownBlock = some g ∨ wd.heap.size ≤ g) wd.drew w') => ((Mod.of_drew_l mm).cell (p := ⟨bn, 0, none⟩) hDd.node.lt hnn).trans (hDd.node.cell (o := 0) rfl)
                  have gy := fun (w' : World) (mm : Mod (fun g => (Value.slice Ao xj.out.length co).ownBlock = some g ∨ wd.heap.size ≤ g) wd.drew w') => ((Mod.of_drew_l mm).cell (p := ⟨ba, o + j * 2, none⟩) hbld hnp).trans y0d
                  have gz := fun (w' : World) (mm : Mod (fun g => (Value.slice Ao xj.out.length co).ownBlock = some g ∨ wd.heap.size ≤ g) wd.drew w') => ((Mod.of_drew_l mm).cell (p := ⟨ba, o + j * 2 + 1, none⟩) hbld hnp).trans y1d
                  have HNB := Lib.hid hnb
                  have hB0d : B0 ≤ wd.heap.size := by have := hDd.lk.box.lt; have := hDd.lk.le; omega
                  have hxl : (xj.out.length : Int) ≤ 1000000 := HXL.out
                  clear hDd hnb hnn hnp hapd hwd y0d y1d hbld
                  go_wp2_with fail
                  refine region_mT (fun g => (Value.slice Ao xj.out.length co).ownBlock = some g ∨ wd.heap.size ≤ g) (by kernel_rfl) ?_
                  simp only [List.length_cons, List.length_nil, List.replicate]
                  refine take1T 0 ?_
                  refine take1T 1 ?_
                  refine take1T 2 ?_
                  refine take1T 3 ?_
                  refine take1T 4 ?_
                  refine take1T 5 ?_
                  refine take1T 6 ?_
                  refine take1T 7 ?_
                  refine take1T 8 ?_
                  refine take1T 9 ?_
                  refine step1T 10 ?_
                  go_simp
                  refine ⟨.inl (Mod.alloc (Mod.refl _ _) _), ?_⟩
                  refine step1T 11 ?_
                  refine appG_step (.tmp 105) (.tmp 111) pair_t B0 (.slice Ao xj.out.length co) xj.out.length (xj.out.flatMap kc) ((own_keep HDD.out.lk.oo ((Mod.refl (fun _ => False) _).drew) (fun _ _ _ h => h)).alloc _) (some ⟨wd.heap.size, 0, none⟩) 1 1 [.string P.key, .string P.val] rfl rfl rfl rfl (cells_lit rfl) (by intro u hu; simp at hu; rcases hu with rfl | rfl <;> rfl) (by omega) (by unfold maxLen; omega) (by simp; omega) ?_
                  intro v7 w7 ho7 hm7 hr7
                  refine ⟨.inl (hm7.mono fun _ _ h => .inl h), ?_⟩
                  have hM7 := Mod.trans (((Mod.refl (fun g => (Value.slice Ao xj.out.length co).ownBlock = some g) wd).drew).alloc (.cells #[.string P.key, .string P.val] 48)) hm7 (fun _ _ h => h)
                  have hbx7 := HDD.out.lk.box.keep hM7 (fun h => HNB.out (.inl h))
                  obtain ⟨A7, c7, rfl, _, _, _, _⟩ := own_cells ho7
                  have q0 := hbx7.cell (o := 2) rfl
                  have r0 := hbx7.frozen 2
                  simp only [Act.put, List.setIfInBounds_toArray, List.set_cons_zero, List.set_cons_succ]
                  refine take1T 12 ?_
                  refine take1T 13 ?_
                  refine step1T 14 ?_
                  go_simp
                  refine ⟨.inr (by kernel_rfl), ?_⟩
                  refine wpAnyT_done (by kernel_rfl) ?_
                  obtain ⟨k1, k2⟩ := HDD.out.lk.putO P hM7 ho7
                  have hR7 : RowOf wd (.slice Ao xj.out.length co) (.slice A7 (xj.out.length + 1) c7) := rowOf_later hr7 (by simp)
                  have hN7 := HDD.out.next k1 k2 (rowOf_same rfl) hR7 hblt
                  have HN7 := Lib.hid hN7
                  have HPX : Hid (leafS lo hi (ps.take (j + 1)) (x.ask k.id) = { xj with out := xj.out ++ [P] }) := Lib.hid (by
                    have h := HST.out
                    rw [if_pos HIN.out] at h
                    rw [h]
                    unfold putP
                    rw [if_neg (fun e => e HX.out.2), if_neg HNO.out])
                  have HBX : Hid (xj.bad = 0) := Lib.hid HX.out.2
                  clear gb gn gy gz hM7 hbx7 q0 r0 k1 k2 hR7 hN7 ho7 hm7 hr7 HNB HDD
                  go_wp2_with fail
                  go_roundw
                  case rel => exact ⟨j + 1, _, _, by go_num, by omega, Lib.hid ⟨HPX.out.symm, HBX.out⟩, HN7⟩
                  case measure => simp [intOf]; omega
                · have d1 : decide ((0 : Int) < (xj.out.length : Int)) = true := decide_eq_true (by omega)
                  have d2 : (0 : Int) < (xj.out.length : Int) := by omega
                  have d3 : (1 : Int) ≤ (xj.out.length : Int) := by omega
                  have w1 : IntKind.i64.wrap ((xj.out.length : Int) - 1) = (xj.out.length : Int) - 1 := by rw [IntKind.wrap_i64]; have := HXL.out; omega
                  have d4 : (0 : Int) ≤ (xj.out.length : Int) - 1 := by omega
                  have d5 : (xj.out.length : Int) - 1 < (xj.out.length : Int) := by omega
                  have d6 : ((xj.out.length : Int) - 1).toNat = xj.out.length - 1 := by omega
                  obtain ⟨A8, c8, he8, _, hco, _, _⟩ := own_cells HD.out.lk.oo
                  obtain ⟨rfl, rfl⟩ : Ao = A8 ∧ co = c8 := by simpa using he8
                  rcases hco with h | ⟨bo, oo, rfl, hcello⟩
                  · have := flat_len kc_len xj.out; rw [h] at this; simp at this; omega
                  have yo := hcello _ _ (flat_get kc_len xj.out (xj.out.length - 1) 0 (by omega) (by omega))
                  have hlo : lastO xj.out = xj.out[xj.out.length - 1].key := by
                    unfold lastO
                    rw [List.getLast?_eq_getElem?, List.getElem?_eq_getElem (by omega)]
                    rfl
                  obtain ⟨Q, hQ⟩ : ∃ Q, xj.out[xj.out.length - 1] = Q := ⟨_, rfl⟩
                  rw [hQ] at yo hlo
                  rw [Nat.add_zero] at yo
                  have hblo : bo < wr.heap.size := World.block_lt_of_cell? wr _ yo
                  have g4 := fun (w' : World) (mm : Mod0 wr.drew w') => ((Mod.of_drew_l mm).cell (p := ⟨bo, oo + (xj.out.length - 1) * 2, none⟩) hblo (fun h => h)).trans yo
                  clear hcello he8 hQ yo hblo
                  cases hlt : ltS Q.key P.key with
                  | true =>
                    have e5 : Go.Op.bytesLess Q.key.toList P.key.toList = true := hlt
                    have HNO : Hid (¬ (xj.out ≠ [] ∧ ltS (lastO xj.out) P.key = false)) := Lib.hid (fun h => by rw [hlo, hlt] at h; cases h.2)
                    clear hlt hlo
                    go_wp2_with fail
                    refine region_m (by kernel_rfl) ?_
                    simp only [List.length_cons, List.length_nil, List.replicate]
                    refine take1 0 ?_
                    refine take1 1 ?_
                    refine take1 2 ?_
                    refine take1 3 ?_
                    refine take1 4 ?_
                    refine take1 5 ?_
                    refine take1 6 ?_
                    refine take1 7 ?_
                    refine take1 8 ?_
                    refine take1 9 ?_
                    refine take1 10 ?_
                    refine take1 11 ?_
                    refine take1 12 ?_
                    refine take1 13 ?_
                    refine take1 14 ?_
                    refine take1 15 ?_
                    refine take1 16 ?_
                    refine take1 17 ?_
                    refine take1 18 ?_
                    refine take1 19 ?_
                    refine take1 20 ?_
                    refine take1 21 ?_
                    refine take1 22 ?_
                    refine take1 23 ?_
                    refine take1 24 ?_
                    refine take1 25 ?_
                    refine take1 26 ?_
                    refine take1 27 ?_
                    refine wpAnyM_done (by kernel_rfl) ?_
                    clear g1 g2 g3 g4 d1 d2 d3 d4 d5 d6 w1 hout e5
                    go_wp2_with fail
                    obtain ⟨wd, hwd⟩ : ∃ wd, wr.drew = wd := ⟨_, rfl⟩
                    have hDd := HD.out.keep0 ((Mod.refl (fun _ => False) wr).drew) hblt
                    rw [hwd] at hDd
                    rw [hwd]
                    have HDD := Lib.hid hDd
                    have y0d : wd.cell? ⟨ba, o + j * 2, none⟩ = some (.string P.key) := by rw [← hwd]; exact y0
                    have y1d : wd.cell? ⟨ba, o + j * 2 + 1, none⟩ = some (.string P.val) := by rw [← hwd]; exact y1
                    have hbld : ba < wd.heap.size := World.block_lt_of_cell? wd _ y0d
                    have hapd := hDd.lk.apart
                    have hnb : ¬ ((Value.slice (some ⟨bo, oo, none⟩) xj.out.length co).ownBlock = some bl ∨ wd.heap.size ≤ bl) := by
                      rintro (e | e)
                      · exact hapd.2.1 e
                      · have := hDd.lk.box.lt; omega
                    have hnn : ¬ ((Value.slice (some ⟨bo, oo, none⟩) xj.out.length co).ownBlock = some bn ∨ wd.heap.size ≤ bn) := by
                      rintro (e | e)
                      · exact absurd rfl (cell_of_has hDd.node hDd.lk.oo e (by decide))
                      · have := hDd.node.lt; omega
                    have hnp : ¬ ((Value.slice (some ⟨bo, oo, none⟩) xj.out.length co).ownBlock = some ba ∨ wd.heap.size ≤ ba) := by
                      rintro (e | e)
                      · exact hDd.ap ba rfl e
                      · omega
                    have gb := fun (w' : World) (mm : Mod (fun g => (Value.slice (some ⟨bo, oo, none⟩) xj.out.length co).ownBlock = some g ∨ wd.heap.size ≤ g) wd.drew w') => ((Mod.of_drew_l mm).cell (p := ⟨bl, 2, none⟩) hDd.lk.box.lt hnb).trans (hDd.lk.box.cell (o := 2) rfl)
                    have gn := fun (w' : World) (mm : Mod (fun g => (Value.slice (some ⟨bo, oo, none⟩) xj.out.length co).ownBlock = some g ∨ wd.heap.size ≤ g) wd.drew w') => ((Mod.of_drew_l mm).cell (p := ⟨bn, 0, none⟩) hDd.node.lt hnn).trans (hDd.node.cell (o := 0) rfl)
                    have gy := fun (w' : World) (mm : Mod (fun g => (Value.slice (some ⟨bo, oo, none⟩) xj.out.length co).ownBlock = some g ∨ wd.heap.size ≤ g) wd.drew w') => ((Mod.of_drew_l mm).cell (p := ⟨ba, o + j * 2, none⟩) hbld hnp).trans y0d
                    have gz := fun (w' : World) (mm : Mod (fun g => (Value.slice (some ⟨bo, oo, none⟩) xj.out.length co).ownBlock = some g ∨ wd.heap.size ≤ g) wd.drew w') => ((Mod.of_drew_l mm).cell (p := ⟨ba, o + j * 2 + 1, none⟩) hbld hnp).trans y1d
                    have HNB := Lib.hid hnb
                    have hB0d : B0 ≤ wd.heap.size := by have := hDd.lk.box.lt; have := hDd.lk.le; omega
                    have hxl : (xj.out.length : Int) ≤ 1000000 := HXL.out
                    clear hDd hnb hnn hnp hapd hwd y0d y1d hbld
                    go_wp2_with fail
                    refine region_mT (fun g => (Value.slice (some ⟨bo, oo, none⟩) xj.out.length co).ownBlock = some g ∨ wd.heap.size ≤ g) (by kernel_rfl) ?_
                    simp only [List.length_cons, List.length_nil, List.replicate]
                    refine take1T 0 ?_
                    refine take1T 1 ?_
                    refine take1T 2 ?_
                    refine take1T 3 ?_
                    refine take1T 4 ?_
                    refine take1T 5 ?_
                    refine take1T 6 ?_
                    refine take1T 7 ?_
                    refine take1T 8 ?_
                    refine take1T 9 ?_
                    refine step1T 10 ?_
                    go_simp
                    refine ⟨.inl (Mod.alloc (Mod.refl _ _) _), ?_⟩
                    refine step1T 11 ?_
                    refine appG_step (.tmp 105) (.tmp 111) pair_t B0 (.slice (some ⟨bo, oo, none⟩) xj.out.length co) xj.out.length (xj.out.flatMap kc) ((own_keep HDD.out.lk.oo ((Mod.refl (fun _ => False) _).drew) (fun _ _ _ h => h)).alloc _) (some ⟨wd.heap.size, 0, none⟩) 1 1 [.string P.key, .string P.val] rfl rfl rfl rfl (cells_lit rfl) (by intro u hu; simp at hu; rcases hu with rfl | rfl <;> rfl) (by omega) (by unfold maxLen; omega) (by simp; omega) ?_
                    intro v7 w7 ho7 hm7 hr7
                    refine ⟨.inl (hm7.mono fun _ _ h => .inl h), ?_⟩
                    have hM7 := Mod.trans (((Mod.refl (fun g => (Value.slice (some ⟨bo, oo, none⟩) xj.out.length co).ownBlock = some g) wd).drew).alloc (.cells #[.string P.key, .string P.val] 48)) hm7 (fun _ _ h => h)
                    have hbx7 := HDD.out.lk.box.keep hM7 (fun h => HNB.out (.inl h))
                    obtain ⟨A7, c7, rfl, _, _, _, _⟩ := own_cells ho7
                    have q0 := hbx7.cell (o := 2) rfl
                    have r0 := hbx7.frozen 2
                    simp only [Act.put, List.setIfInBounds_toArray, List.set_cons_zero, List.set_cons_succ]
                    refine take1T 12 ?_
                    refine take1T 13 ?_
                    refine step1T 14 ?_
                    go_simp
                    refine ⟨.inr (by kernel_rfl), ?_⟩
                    refine wpAnyT_done (by kernel_rfl) ?_
                    obtain ⟨k1, k2⟩ := HDD.out.lk.putO P hM7 ho7
                    have hR7 : RowOf wd (.slice (some ⟨bo, oo, none⟩) xj.out.length co) (.slice A7 (xj.out.length + 1) c7) := rowOf_later hr7 (by simp)
                    have hN7 := HDD.out.next k1 k2 (rowOf_same rfl) hR7 hblt
                    have HN7 := Lib.hid hN7
                    have HPX : Hid (leafS lo hi (ps.take (j + 1)) (x.ask k.id) = { xj with out := xj.out ++ [P] }) := Lib.hid (by
                      have h := HST.out
                      rw [if_pos HIN.out] at h
                      rw [h]
                      unfold putP
                      rw [if_neg (fun e => e HX.out.2), if_neg HNO.out])
                    have HBX : Hid (xj.bad = 0) := Lib.hid HX.out.2
                    clear gb gn gy gz hM7 hbx7 q0 r0 k1 k2 hR7 hN7 ho7 hm7 hr7 HNB HDD
                    go_wp2_with fail
                    go_roundw
                    case rel => exact ⟨j + 1, _, _, by go_num, by omega, Lib.hid ⟨HPX.out.symm, HBX.out⟩, HN7⟩
                    case measure => simp [intOf]; omega
                  | false =>
                    have e5 : Go.Op.bytesLess Q.key.toList P.key.toList = false := hlt
                    have hne : xj.out ≠ [] := fun h => by rw [h] at hout; simp at hout
                    have HPX : Hid (leafS lo hi (ps.take (j + 1)) (x.ask k.id) = { xj with bad := 122 }) := Lib.hid (by
                      have h := HST.out
                      rw [if_pos HIN.out] at h
                      rw [h]
                      unfold putP
                      rw [if_neg (fun e => e HX.out.2), if_pos ⟨hne, by rw [hlo]; exact hlt⟩])
                    have hyb : y = { xj with bad := 122 } := by
                      rw [← hy, ← HPX.out]
                      have e : leafS lo hi ps (x.ask k.id) = leafS lo hi (ps.drop (j + 1)) (leafS lo hi (ps.take (j + 1)) (x.ask k.id)) := by
                        unfold leafS; rw [← List.foldl_append, List.take_append_drop]
                      rw [e]
                      exact leafS_bad lo hi _ _ (by rw [HPX.out]; show (122 : Int) ≠ 0; decide)
                    have hDd := HD.out.keep0 ((Mod.refl (fun _ => False) wr).drew) hblt
                    obtain ⟨k1, k2⟩ := hDd.lk.setBad 122
                    have hN := hDd.next k1 k2 (rowOf_same rfl) (rowOf_same rfl) hblt
                    rw [← hyb] at hN
                    have HF := Lib.hid hN
                    have c3 := HD.out.lk.box.cell (o := 3) rfl
                    have f3 := HD.out.lk.box.frozen 3
                    clear hlt hlo hne hyb hDd k1 k2 hN
                    go_wp2_with fail
                    refine region_m (by kernel_rfl) ?_
                    simp only [List.length_cons, List.length_nil, List.replicate]
                    refine take1 0 ?_
                    refine take1 1 ?_
                    refine take1 2 ?_
                    refine take1 3 ?_
                    refine take1 4 ?_
                    refine take1 5 ?_
                    refine take1 6 ?_
                    refine take1 7 ?_
                    refine take1 8 ?_
                    refine take1 9 ?_
                    refine take1 10 ?_
                    refine take1 11 ?_
                    refine take1 12 ?_
                    refine take1 13 ?_
                    refine take1 14 ?_
                    refine take1 15 ?_
                    refine take1 16 ?_
                    refine take1 17 ?_
                    refine take1 18 ?_
                    refine take1 19 ?_
                    refine take1 20 ?_
                    refine take1 21 ?_
                    refine take1 22 ?_
                    refine take1 23 ?_
                    refine take1 24 ?_
                    refine take1 25 ?_
                    refine take1 26 ?_
                    refine take1 27 ?_
                    refine wpAnyM_done (by kernel_rfl) ?_
                    clear g1 g2 g3 g4
                    go_wp2_with fail
                    go_end0
                    exact ⟨rfl, _, _, HF.out.lk, HF.out.mod, HF.out.ra, HF.out.ro⟩
              | false =>
                cases h3 : ltS P.key hi with
                | true =>
                  have e3 : Go.Op.bytesLess P.key.toList hi.toList = true := h3
                  have hin : isIn lo hi P.key = true := by unfold isIn; rw [h1, h2, h3]; rfl
                  clear h1 h3
                  have HIN := Lib.hid hin
                  have g1 := fun (w' : World) (mm : Mod0 wr.drew w') => ((Mod.of_drew_l mm).cell (p := ⟨bl, 2, none⟩) HD.out.lk.box.lt (fun h => h)).trans (HD.out.lk.box.cell (o := 2) rfl)
                  have g2 := fun (w' : World) (mm : Mod0 wr.drew w') => ((Mod.of_drew_l mm).cell (p := ⟨bn, 0, none⟩) HD.out.node.lt (fun h => h)).trans (HD.out.node.cell (o := 0) rfl)
                  have g3 := fun (w' : World) (mm : Mod0 wr.drew w') => ((Mod.of_drew_l mm).cell (p := ⟨ba, o + j * 2, none⟩) hbl (fun h => h)).trans y0
                  clear hin
                  rcases Nat.eq_zero_or_pos xj.out.length with hout | hout
                  · have d0 : (xj.out.length : Int) = 0 := by omega
                    have HNO : Hid (¬ (xj.out ≠ [] ∧ ltS (lastO xj.out) P.key = false)) := Lib.hid (fun h => h.1 (List.eq_nil_of_length_eq_zero hout))
                    have d1 : decide ((0 : Int) < (xj.out.length : Int)) = false := decide_eq_false (by omega)
                    have d2 : ¬ (0 : Int) < (xj.out.length : Int) := by omega
                    go_wp2_with fail
                    refine region_m (by kernel_rfl) ?_
                    simp only [List.length_cons, List.length_nil, List.replicate]
                    refine take1 0 ?_
                    refine take1 1 ?_
                    refine take1 2 ?_
                    refine take1 3 ?_
                    refine take1 4 ?_
                    refine take1 5 ?_
                    refine take1 6 ?_
                    refine take1 7 ?_
                    refine take1 8 ?_
                    refine take1 9 ?_
                    refine take1 10 ?_
                    refine take1 11 ?_
                    refine take1 12 ?_
                    refine take1 13 ?_
                    refine take1 14 ?_
                    refine take1 15 ?_
                    refine take1 16 ?_
                    refine take1 17 ?_
                    refine take1 18 ?_
                    refine take1 19 ?_
                    refine take1 20 ?_
                    refine take1 21 ?_
                    refine take1 22 ?_
                    refine take1 23 ?_
                    refine take1 24 ?_
                    refine take1 25 ?_
                    refine take1 26 ?_
                    refine take1 27 ?_
                    refine wpAnyM_done (by kernel_rfl) ?_
                    clear g1 g2 g3 d0 d1 d2 hout
                    go_wp2_with fail
                    obtain ⟨wd, hwd⟩ : ∃ wd, wr.drew = wd := ⟨_, rfl⟩
                    have hDd := HD.out.keep0 ((Mod.refl (fun _ => False) wr).drew) hblt
                    rw [hwd] at hDd
                    rw [hwd]
                    have HDD := Lib.hid hDd
                    have y0d : wd.cell? ⟨ba, o + j * 2, none⟩ = some (.string P.key) := by rw [← hwd]; exact y0
                    have y1d : wd.cell? ⟨ba, o + j * 2 + 1, none⟩ = some (.string P.val) := by rw [← hwd]; exact y1
                    have hbld : ba < wd.heap.size := World.block_lt_of_cell? wd _ y0d
                    have hapd := hDd.lk.apart
                    have hnb : ¬ ((Value.slice Ao xj.out.length co).ownBlock = some bl ∨ wd.heap.size ≤ bl) := by
                      rintro (e | e)
                      · exact hapd.2.1 e
                      · have := hDd.lk.box.lt; omega
                    have hnn : ¬ ((Value.slice Ao xj.out.length co).ownBlock = some bn ∨ wd.heap.size ≤ bn) := by
                      rintro (e | e)
                      · exact absurd rfl (cell_of_has hDd.node hDd.lk.oo e (by decide))
                      · have := hDd.node.lt; omega
                    have hnp : ¬ ((Value.slice Ao xj.out.length co).ownBlock = some ba ∨ wd.heap.size ≤ ba) := by
                      rintro (e | e)
                      · exact hDd.ap ba rfl e
                      · omega
                    have gb := fun (w' : World) (mm : Mod (fun g => (Value.slice Ao xj.out.length co).ownBlock = some g ∨ wd.heap.size ≤ g) wd.drew w') => ((Mod.of_drew_l mm).cell (p := ⟨bl, 2, none⟩) hDd.lk.box.lt hnb).trans (hDd.lk.box.cell (o := 2) rfl)
                    have gn := fun (w' : World) (mm : Mod (fun g => (Value.slice Ao xj.out.length co).ownBlock = some g ∨ wd.heap.size ≤ g) wd.drew w') => ((Mod.of_drew_l mm).cell (p := ⟨bn, 0, none⟩) hDd.node.lt hnn).trans (hDd.node.cell (o := 0) rfl)
                    have gy := fun (w' : World) (mm : Mod (fun g => (Value.slice Ao xj.out.length co).ownBlock = some g ∨ wd.heap.size ≤ g) wd.drew w') => ((Mod.of_drew_l mm).cell (p := ⟨ba, o + j * 2, none⟩) hbld hnp).trans y0d
                    have gz := fun (w' : World) (mm : Mod (fun g => (Value.slice Ao xj.out.length co).ownBlock = some g ∨ wd.heap.size ≤ g) wd.drew w') => ((Mod.of_drew_l mm).cell (p := ⟨ba, o + j * 2 + 1, none⟩) hbld hnp).trans y1d
                    have HNB := Lib.hid hnb
                    have hB0d : B0 ≤ wd.heap.size := by have := hDd.lk.box.lt; have := hDd.lk.le; omega
                    have hxl : (xj.out.length : Int) ≤ 1000000 := HXL.out
                    clear hDd hnb hnn hnp hapd hwd y0d y1d hbld
                    go_wp2_with fail
                    refine region_mT (fun g => (Value.slice Ao xj.out.length co).ownBlock = some g ∨ wd.heap.size ≤ g) (by kernel_rfl) ?_
                    simp only [List.length_cons, List.length_nil, List.replicate]
                    refine take1T 0 ?_
                    refine take1T 1 ?_
                    refine take1T 2 ?_
                    refine take1T 3 ?_
                    refine take1T 4 ?_
                    refine take1T 5 ?_
                    refine take1T 6 ?_
                    refine take1T 7 ?_
                    refine take1T 8 ?_
                    refine take1T 9 ?_
                    refine step1T 10 ?_
                    go_simp
                    refine ⟨.inl (Mod.alloc (Mod.refl _ _) _), ?_⟩
                    refine step1T 11 ?_
                    refine appG_step (.tmp 105) (.tmp 111) pair_t B0 (.slice Ao xj.out.length co) xj.out.length (xj.out.flatMap kc) ((own_keep HDD.out.lk.oo ((Mod.refl (fun _ => False) _).drew) (fun _ _ _ h => h)).alloc _) (some ⟨wd.heap.size, 0, none⟩) 1 1 [.string P.key, .string P.val] rfl rfl rfl rfl (cells_lit rfl) (by intro u hu; simp at hu; rcases hu with rfl | rfl <;> rfl) (by omega) (by unfold maxLen; omega) (by simp; omega) ?_
                    intro v7 w7 ho7 hm7 hr7
                    refine ⟨.inl (hm7.mono fun _ _ h => .inl h), ?_⟩
                    have hM7 := Mod.trans (((Mod.refl (fun g => (Value.slice Ao xj.out.length co).ownBlock = some g) wd).drew).alloc (.cells #[.string P.key, .string P.val] 48)) hm7 (fun _ _ h => h)
                    have hbx7 := HDD.out.lk.box.keep hM7 (fun h => HNB.out (.inl h))
                    obtain ⟨A7, c7, rfl, _, _, _, _⟩ := own_cells ho7
                    have q0 := hbx7.cell (o := 2) rfl
                    have r0 := hbx7.frozen 2
                    simp only [Act.put, List.setIfInBounds_toArray, List.set_cons_zero, List.set_cons_succ]
                    refine take1T 12 ?_
                    refine take1T 13 ?_
                    refine step1T 14 ?_
                    go_simp
                    refine ⟨.inr (by kernel_rfl), ?_⟩
                    refine wpAnyT_done (by kernel_rfl) ?_
                    obtain ⟨k1, k2⟩ := HDD.out.lk.putO P hM7 ho7
                    have hR7 : RowOf wd (.slice Ao xj.out.length co) (.slice A7 (xj.out.length + 1) c7) := rowOf_later hr7 (by simp)
                    have hN7 := HDD.out.next k1 k2 (rowOf_same rfl) hR7 hblt
                    have HN7 := Lib.hid hN7
                    have HPX : Hid (leafS lo hi (ps.take (j + 1)) (x.ask k.id) = { xj with out := xj.out ++ [P] }) := Lib.hid (by
                      have h := HST.out
                      rw [if_pos HIN.out] at h
                      rw [h]
                      unfold putP
                      rw [if_neg (fun e => e HX.out.2), if_neg HNO.out])
                    have HBX : Hid (xj.bad = 0) := Lib.hid HX.out.2
                    clear gb gn gy gz hM7 hbx7 q0 r0 k1 k2 hR7 hN7 ho7 hm7 hr7 HNB HDD
                    go_wp2_with fail
                    go_roundw
                    case rel => exact ⟨j + 1, _, _, by go_num, by omega, Lib.hid ⟨HPX.out.symm, HBX.out⟩, HN7⟩
                    case measure => simp [intOf]; omega
                  · have d1 : decide ((0 : Int) < (xj.out.length : Int)) = true := decide_eq_true (by omega)
                    have d2 : (0 : Int) < (xj.out.length : Int) := by omega
                    have d3 : (1 : Int) ≤ (xj.out.length : Int) := by omega
                    have w1 : IntKind.i64.wrap ((xj.out.length : Int) - 1) = (xj.out.length : Int) - 1 := by rw [IntKind.wrap_i64]; have := HXL.out; omega
                    have d4 : (0 : Int) ≤ (xj.out.length : Int) - 1 := by omega
                    have d5 : (xj.out.length : Int) - 1 < (xj.out.length : Int) := by omega
                    have d6 : ((xj.out.length : Int) - 1).toNat = xj.out.length - 1 := by omega
                    obtain ⟨A8, c8, he8, _, hco, _, _⟩ := own_cells HD.out.lk.oo
                    obtain ⟨rfl, rfl⟩ : Ao = A8 ∧ co = c8 := by simpa using he8
                    rcases hco with h | ⟨bo, oo, rfl, hcello⟩
                    · have := flat_len kc_len xj.out; rw [h] at this; simp at this; omega
                    have yo := hcello _ _ (flat_get kc_len xj.out (xj.out.length - 1) 0 (by omega) (by omega))
                    have hlo : lastO xj.out = xj.out[xj.out.length - 1].key := by
                      unfold lastO
                      rw [List.getLast?_eq_getElem?, List.getElem?_eq_getElem (by omega)]
                      rfl
                    obtain ⟨Q, hQ⟩ : ∃ Q, xj.out[xj.out.length - 1] = Q := ⟨_, rfl⟩
                    rw [hQ] at yo hlo
                    rw [Nat.add_zero] at yo
                    have hblo : bo < wr.heap.size := World.block_lt_of_cell? wr _ yo
                    have g4 := fun (w' : World) (mm : Mod0 wr.drew w') => ((Mod.of_drew_l mm).cell (p := ⟨bo, oo + (xj.out.length - 1) * 2, none⟩) hblo (fun h => h)).trans yo
                    clear hcello he8 hQ yo hblo
                    cases hlt : ltS Q.key P.key with
                    | true =>
                      have e5 : Go.Op.bytesLess Q.key.toList P.key.toList = true := hlt
                      have HNO : Hid (¬ (xj.out ≠ [] ∧ ltS (lastO xj.out) P.key = false)) := Lib.hid (fun h => by rw [hlo, hlt] at h; cases h.2)
                      clear hlt hlo
                      go_wp2_with fail
                      refine region_m (by kernel_rfl) ?_
                      simp only [List.length_cons, List.length_nil, List.replicate]
                      refine take1 0 ?_
                      refine take1 1 ?_
                      refine take1 2 ?_
                      refine take1 3 ?_
                      refine take1 4 ?_
                      refine take1 5 ?_
                      refine take1 6 ?_
                      refine take1 7 ?_
                      refine take1 8 ?_
                      refine take1 9 ?_
                      refine take1 10 ?_
                      refine take1 11 ?_
                      refine take1 12 ?_
                      refine take1 13 ?_
                      refine take1 14 ?_
                      refine take1 15 ?_
                      refine take1 16 ?_
                      refine take1 17 ?_
                      refine take1 18 ?_
                      refine take1 19 ?_
                      refine take1 20 ?_
                      refine take1 21 ?_
                      refine take1 22 ?_
                      refine take1 23 ?_
                      refine take1 24 ?_
                      refine take1 25 ?_
                      refine take1 26 ?_
                      refine take1 27 ?_
                      refine wpAnyM_done (by kernel_rfl) ?_
                      clear g1 g2 g3 g4 d1 d2 d3 d4 d5 d6 w1 hout e5
                      go_wp2_with fail
                      obtain ⟨wd, hwd⟩ : ∃ wd, wr.drew = wd := ⟨_, rfl⟩
                      have hDd := HD.out.keep0 ((Mod.refl (fun _ => False) wr).drew) hblt
                      rw [hwd] at hDd
                      rw [hwd]
                      have HDD := Lib.hid hDd
                      have y0d : wd.cell? ⟨ba, o + j * 2, none⟩ = some (.string P.key) := by rw [← hwd]; exact y0
                      have y1d : wd.cell? ⟨ba, o + j * 2 + 1, none⟩ = some (.string P.val) := by rw [← hwd]; exact y1
                      have hbld : ba < wd.heap.size := World.block_lt_of_cell? wd _ y0d
                      have hapd := hDd.lk.apart
                      have hnb : ¬ ((Value.slice (some ⟨bo, oo, none⟩) xj.out.length co).ownBlock = some bl ∨ wd.heap.size ≤ bl) := by
                        rintro (e | e)
                        · exact hapd.2.1 e
                        · have := hDd.lk.box.lt; omega
                      have hnn : ¬ ((Value.slice (some ⟨bo, oo, none⟩) xj.out.length co).ownBlock = some bn ∨ wd.heap.size ≤ bn) := by
                        rintro (e | e)
                        · exact absurd rfl (cell_of_has hDd.node hDd.lk.oo e (by decide))
                        · have := hDd.node.lt; omega
                      have hnp : ¬ ((Value.slice (some ⟨bo, oo, none⟩) xj.out.length co).ownBlock = some ba ∨ wd.heap.size ≤ ba) := by
                        rintro (e | e)
                        · exact hDd.ap ba rfl e
                        · omega
                      have gb := fun (w' : World) (mm : Mod (fun g => (Value.slice (some ⟨bo, oo, none⟩) xj.out.length co).ownBlock = some g ∨ wd.heap.size ≤ g) wd.drew w') => ((Mod.of_drew_l mm).cell (p := ⟨bl, 2, none⟩) hDd.lk.box.lt hnb).trans (hDd.lk.box.cell (o := 2) rfl)
                      have gn := fun (w' : World) (mm : Mod (fun g => (Value.slice (some ⟨bo, oo, none⟩) xj.out.length co).ownBlock = some g ∨ wd.heap.size ≤ g) wd.drew w') => ((Mod.of_drew_l mm).cell (p := ⟨bn, 0, none⟩) hDd.node.lt hnn).trans (hDd.node.cell (o := 0) rfl)
                      have gy := fun (w' : World) (mm : Mod (fun g => (Value.slice (some ⟨bo, oo, none⟩) xj.out.length co).ownBlock = some g ∨ wd.heap.size ≤ g) wd.drew w') => ((Mod.of_drew_l mm).cell (p := ⟨ba, o + j * 2, none⟩) hbld hnp).trans y0d
                      have gz := fun (w' : World) (mm : Mod (fun g => (Value.slice (some ⟨bo, oo, none⟩) xj.out.length co).ownBlock = some g ∨ wd.heap.size ≤ g) wd.drew w') => ((Mod.of_drew_l mm).cell (p := ⟨ba, o + j * 2 + 1, none⟩) hbld hnp).trans y1d
                      have HNB := Lib.hid hnb
                      have hB0d : B0 ≤ wd.heap.size := by have := hDd.lk.box.lt; have := hDd.lk.le; omega
                      have hxl : (xj.out.length : Int) ≤ 1000000 := HXL.out
                      clear hDd hnb hnn hnp hapd hwd y0d y1d hbld
                      go_wp2_with fail
                      refine region_mT (fun g => (Value.slice (some ⟨bo, oo, none⟩) xj.out.length co).ownBlock = some g ∨ wd.heap.size ≤ g) (by kernel_rfl) ?_
                      simp only [List.length_cons, List.length_nil, List.replicate]
                      refine take1T 0 ?_
                      refine take1T 1 ?_
                      refine take1T 2 ?_
                      refine take1T 3 ?_
                      refine take1T 4 ?_
                      refine take1T 5 ?_
                      refine take1T 6 ?_
                      refine take1T 7 ?_
                      refine take1T 8 ?_
                      refine take1T 9 ?_
                      refine step1T 10 ?_
                      go_simp
                      refine ⟨.inl (Mod.alloc (Mod.refl _ _) _), ?_⟩
                      refine step1T 11 ?_
                      refine appG_step (.tmp 105) (.tmp 111) pair_t B0 (.slice (some ⟨bo, oo, none⟩) xj.out.length co) xj.out.length (xj.out.flatMap kc) ((own_keep HDD.out.lk.oo ((Mod.refl (fun _ => False) _).drew) (fun _ _ _ h => h)).alloc _) (some ⟨wd.heap.size, 0, none⟩) 1 1 [.string P.key, .string P.val] rfl rfl rfl rfl (cells_lit rfl) (by intro u hu; simp at hu; rcases hu with rfl | rfl <;> rfl) (by omega) (by unfold maxLen; omega) (by simp; omega) ?_
                      intro v7 w7 ho7 hm7 hr7
                      refine ⟨.inl (hm7.mono fun _ _ h => .inl h), ?_⟩
                      have hM7 := Mod.trans (((Mod.refl (fun g => (Value.slice (some ⟨bo, oo, none⟩) xj.out.length co).ownBlock = some g) wd).drew).alloc (.cells #[.string P.key, .string P.val] 48)) hm7 (fun _ _ h => h)
                      have hbx7 := HDD.out.lk.box.keep hM7 (fun h => HNB.out (.inl h))
                      obtain ⟨A7, c7, rfl, _, _, _, _⟩ := own_cells ho7
                      have q0 := hbx7.cell (o := 2) rfl
                      have r0 := hbx7.frozen 2
                      simp only [Act.put, List.setIfInBounds_toArray, List.set_cons_zero, List.set_cons_succ]
                      refine take1T 12 ?_
                      refine take1T 13 ?_
                      refine step1T 14 ?_
                      go_simp
                      refine ⟨.inr (by kernel_rfl), ?_⟩
                      refine wpAnyT_done (by kernel_rfl) ?_
                      obtain ⟨k1, k2⟩ := HDD.out.lk.putO P hM7 ho7
                      have hR7 : RowOf wd (.slice (some ⟨bo, oo, none⟩) xj.out.length co) (.slice A7 (xj.out.length + 1) c7) := rowOf_later hr7 (by simp)
                      have hN7 := HDD.out.next k1 k2 (rowOf_same rfl) hR7 hblt
                      have HN7 := Lib.hid hN7
                      have HPX : Hid (leafS lo hi (ps.take (j + 1)) (x.ask k.id) = { xj with out := xj.out ++ [P] }) := Lib.hid (by
                        have h := HST.out
                        rw [if_pos HIN.out] at h
                        rw [h]
                        unfold putP
                        rw [if_neg (fun e => e HX.out.2), if_neg HNO.out])
                      have HBX : Hid (xj.bad = 0) := Lib.hid HX.out.2
                      clear gb gn gy gz hM7 hbx7 q0 r0 k1 k2 hR7 hN7 ho7 hm7 hr7 HNB HDD
                      go_wp2_with fail
                      go_roundw
                      case rel => exact ⟨j + 1, _, _, by go_num, by omega, Lib.hid ⟨HPX.out.symm, HBX.out⟩, HN7⟩
                      case measure => simp [intOf]; omega
                    | false =>
                      have e5 : Go.Op.bytesLess Q.key.toList P.key.toList = false := hlt
                      have hne : xj.out ≠ [] := fun h => by rw [h] at hout; simp at hout
                      have HPX : Hid (leafS lo hi (ps.take (j + 1)) (x.ask k.id) = { xj with bad := 122 }) := Lib.hid (by
                        have h := HST.out
                        rw [if_pos HIN.out] at h
                        rw [h]
                        unfold putP
                        rw [if_neg (fun e => e HX.out.2), if_pos ⟨hne, by rw [hlo]; exact hlt⟩])
                      have hyb : y = { xj with bad := 122 } := by
                        rw [← hy, ← HPX.out]
                        have e : leafS lo hi ps (x.ask k.id) = leafS lo hi (ps.drop (j + 1)) (leafS lo hi (ps.take (j + 1)) (x.ask k.id)) := by
                          unfold leafS; rw [← List.foldl_append, List.take_append_drop]
                        rw [e]
                        exact leafS_bad lo hi _ _ (by rw [HPX.out]; show (122 : Int) ≠ 0; decide)
                      have hDd := HD.out.keep0 ((Mod.refl (fun _ => False) wr).drew) hblt
                      obtain ⟨k1, k2⟩ := hDd.lk.setBad 122
                      have hN := hDd.next k1 k2 (rowOf_same rfl) (rowOf_same rfl) hblt
                      rw [← hyb] at hN
                      have HF := Lib.hid hN
                      have c3 := HD.out.lk.box.cell (o := 3) rfl
                      have f3 := HD.out.lk.box.frozen 3
                      clear hlt hlo hne hyb hDd k1 k2 hN
                      go_wp2_with fail
                      refine region_m (by kernel_rfl) ?_
                      simp only [List.length_cons, List.length_nil, List.replicate]
                      refine take1 0 ?_
                      refine take1 1 ?_
                      refine take1 2 ?_
                      refine take1 3 ?_
                      refine take1 4 ?_
                      refine take1 5 ?_
                      refine take1 6 ?_
                      refine take1 7 ?_
                      refine take1 8 ?_
                      refine take1 9 ?_
                      refine take1 10 ?_
                      refine take1 11 ?_
                      refine take1 12 ?_
                      refine take1 13 ?_
                      refine take1 14 ?_
                      refine take1 15 ?_
                      refine take1 16 ?_
                      refine take1 17 ?_
                      refine take1 18 ?_
                      refine take1 19 ?_
                      refine take1 20 ?_
                      refine take1 21 ?_
                      refine take1 22 ?_
                      refine take1 23 ?_
                      refine take1 24 ?_
                      refine take1 25 ?_
                      refine take1 26 ?_
                      refine take1 27 ?_
                      refine wpAnyM_done (by kernel_rfl) ?_
                      clear g1 g2 g3 g4
                      go_wp2_with fail
                      go_end0
                      exact ⟨rfl, _, _, HF.out.lk, HF.out.mod, HF.out.ra, HF.out.ro⟩
                | false =>
                  have e3 : Go.Op.bytesLess P.key.toList hi.toList = false := h3
                  have HPX : Hid (leafS lo hi (ps.take (j + 1)) (x.ask k.id) = xj) := Lib.hid (by rw [HST.out, if_neg]; unfold isIn; rw [h1, h2, h3]; decide)
                  clear h1 h3
                  go_wp2_with fail
                  go_roundw
                  case rel => exact ⟨j + 1, xj, _, by go_num, by omega, Lib.hid ⟨HPX.out.symm, HX.out.2⟩, HD⟩
                  case measure => simp [intOf]; omega
          · have j1 : ¬ (j : Int) < (ps.length : Int) := by omega
            have hjk : j = ps.length := by omega
            have hyx : xj = y := by rw [HX.out.1, hjk, List.take_length]; exact hy
            subst hyx
            have n2 := HD.out.node.cell (o := 2) rfl
            clear hy HX
            go_wp2_with fail
            go_loopw [13] (fun i wr2 => i = .int .i64 0 ∧ wr2 = wr) (fun _ _ => 0)
            case atStart => exact ⟨by go_num, rfl⟩
            case round =>
              obtain ⟨rfl, rfl⟩ := hrel
              go_wp2_with fail
              go_end0
              exact ⟨rfl, _, _, HD.out.lk, HD.out.mod, HD.out.ra, HD.out.ro⟩
    | branch L kids =>
      obtain rfl : E2 = 0 := e1.symm
      obtain rfl : L = L2 := e2
      obtain rfl : 0 = np2 := e3
      obtain rfl : kids.length = nk2 := e4
      dsimp only at hy
      as_aux_lemma =>
        obtain ⟨bb, _, hbb⟩ := pnode_branch HN.out
        have hnb2 := need_branch hbb HK.out
        have hko := kid_ok hbb
        obtain ⟨_, _, _, hLl, hL1, hL2, hkn, hkl, _, _, hkk⟩ := branch_facts hbb
        have hLf : L - 1 < f := by
          rcases hlv with h | h
          · omega
          · rcases hLl with h2 | h2
            · omega
            · have := h2.1; omega
        have hA0 : ((x.ask k.id).asked.length : Int) + L * manyL (kids.drop 0) ≤ 1000000 := by
          have := HNM.out.1
          simp only [LS.ask, List.length_append, List.length_cons, List.length_nil, List.drop_zero]
          omega
        have hO0 : ((x.ask k.id).out.length : Int) + manyL (kids.drop 0) ≤ 1000000 := by
          have := HNM.out.2
          simp only [LS.ask, List.drop_zero]
          omega
        have HKO := Lib.hid hko
        have HKK := Lib.hid hkk
        have hB0 : x.bad = 0 := HX0.out
        have n0z := HND9.out.node.cell (o := 0) rfl
        clear hbb hLl hnb2 hko hkk
        go_wp2_with fail
        clear n0z
        go_loopw [12] (fun i wr2 => i = .int .i64 0 ∧ wr2 = w9) (fun _ _ => 0)
        case atStart => exact ⟨by go_num, rfl⟩
        case round =>
          obtain ⟨rfl, rfl⟩ := hrel
          have n0 := HND9.out.node.cell (o := 0) rfl
          go_wp2_with fail
          clear n0
          go_loopw [13] (fun i wr => ∃ (j : Nat) (xj : LS) (vaj voj : Value), i = .int .i64 j ∧ j ≤ kids.length ∧ Hid (kidsS (goesS objs lo hi f (L - 1)) lo hi (kids.drop j) xj = y) ∧ Hid ((xj.asked.length : Int) + L * manyL (kids.drop j) ≤ 1000000 ∧ (xj.out.length : Int) + manyL (kids.drop j) ≤ 1000000) ∧
            Hid (NdIs B0 bl bn A c objs vaj voj va vo (.slice Ap 0 cp) (.slice Ak kids.length ck) xj (.branch L kids) w wr)) (fun i _ => kids.length - (intOf i).toNat)
          case atStart => exact ⟨0, x.ask k.id, _, vo, by go_num, by omega, Lib.hid (by rw [List.drop_zero]; exact hy), Lib.hid ⟨hA0, hO0⟩, HND9⟩
          case round =>
            clear hy
            obtain ⟨j, xj, vaj, voj, rfl, hj, HKY, HNU, HD⟩ := hrel
            have n1 : wr.cell? ⟨bn, 1, none⟩ = some (.int .i64 L) := HD.out.node.cell (o := 1) rfl
            have n2 := HD.out.node.cell (o := 2) rfl
            have c3 := HD.out.lk.box.cell (o := 3) rfl
            by_cases hjl : j < kids.length
            · have j1 : (j : Int) < (kids.length : Int) := by omega
              have j0 : (0 : Int) ≤ (j : Int) := by omega
              obtain ⟨A9, c9, he9, _, hcp, _, _⟩ := own_cells HD.out.ol
              obtain ⟨rfl, rfl⟩ : Ak = A9 ∧ ck = c9 := by simpa [pnK] using he9
              rcases hcp with h | ⟨ba, o, rfl, hcell⟩
              · have := flat_len lc_len kids; rw [show kids.flatMap lc = [] from h] at this; simp at this; omega
              have y0 := hcell _ _ (flat_get lc_len kids j 0 hjl (by omega))
              have y1 := hcell _ _ (flat_get lc_len kids j 1 hjl (by omega))
              have y2 := hcell _ _ (flat_get lc_len kids j 2 hjl (by omega))
              rw [Nat.add_zero] at y0
              rw [← Nat.add_assoc] at y1 y2
              have hbl : ba < wr.heap.size := World.block_lt_of_cell? wr _ y0
              have hdr := List.drop_eq_getElem_cons hjl
              have hkq := HKK.out _ (List.getElem_mem hjl)
              have hkoq := HKO.out _ (List.getElem_mem hjl)
              obtain ⟨K, hK⟩ : ∃ K, kids[j] = K := ⟨_, rfl⟩
              rw [hK] at y0 y1 y2 hdr hkq hkoq
              have hks := HKY.out
              have hnu := HNU.out
              rw [hdr, manyL_cons, Int.mul_add] at hnu
              rw [hdr] at hks
              unfold kidsS at hks
              have HKE := Lib.hid hK
              have hdp : 0 ≤ manyL (kids.drop (j + 1)) := manyL_pos (fun q hq => ⟨(HKK.out q (List.mem_of_mem_drop hq)).1, (HKK.out q (List.mem_of_mem_drop hq)).2.1⟩)
              have hLp : 0 ≤ L * K.many := Int.mul_nonneg (by omega) (by omega)
              have hLm : 0 ≤ L * manyL (kids.drop (j + 1)) := Int.mul_nonneg (by omega) hdp
              clear hcell he9 hK hdr HKY HNU
              by_cases hbx : xj.bad = 0
              · cases h1 : ltS K.last lo with
                | true =>
                  have e1 : Go.Op.bytesLess K.last.toList lo.toList = true := h1
                  have b0 : (xj.bad == 0) = true := by simpa using hbx
                  rw [show kidS (goesS objs lo hi f (L - 1)) lo K xj = xj by unfold kidS; rw [if_neg (fun e => by rw [h1] at e; cases e.2)]] at hks
                  have HKS := Lib.hid hks
                  have HNU1 : Hid ((xj.asked.length : Int) + L * manyL (kids.drop (j + 1)) ≤ 1000000 ∧ (xj.out.length : Int) + manyL (kids.drop (j + 1)) ≤ 1000000) := Lib.hid (by omega)
                  rw [hbx] at c3
                  clear h1 hks hnu hdp hLp hLm hbx
                  obtain ⟨x1, hx1⟩ : ∃ x1, xj = x1 := ⟨_, rfl⟩
                  rw [hx1] at HKS HNU1
                  have HD1 := HD
                  rw [hx1] at HD1
                  clear hx1
                  have n2z := HD1.out.node.cell (o := 2) rfl
                  obtain ⟨A9, c9, he9, _, hcz, _, _⟩ := own_cells HD1.out.ol
                  obtain ⟨rfl, rfl⟩ : (some ⟨ba, o, none⟩) = A9 ∧ ck = c9 := by simpa [pnK] using he9
                  have y0z : wr.cell? ⟨ba, o + j * 3, none⟩ = some (.string K.last) := by
                    rcases hcz with h | ⟨bz, oz, hz, hcellz⟩
                    · have := flat_len lc_len kids
                      rw [show kids.flatMap lc = [] from h] at this
                      simp at this; omega
                    · obtain ⟨rfl, rfl⟩ : ba = bz ∧ o = oz := by simpa using hz
                      have := hcellz _ _ (flat_get lc_len kids j 0 hjl (by omega))
                      rw [Nat.add_zero, HKE.out] at this
                      exact this
                  clear he9 hcz
                  cases h2 : hi.toList.isEmpty with
                  | true =>
                    have hen : ends hi K.last = false := by unfold ends; rw [h2]; rfl
                    have HK1 : Hid (kidsS (goesS objs lo hi f (L - 1)) lo hi (kids.drop (j + 1)) x1 = y) := Lib.hid (by
                      have h := HKS.out
                      rw [hen, if_neg (by decide)] at h
                      exact h)
                    clear hen
                    go_wp2_with fail
                    go_roundw
                    case rel => exact ⟨j + 1, x1, _, _, by go_num, by omega, HK1, HNU1, HD1⟩
                    case measure => simp [intOf]; omega
                  | false =>
                    cases h3 : ltS K.last hi with
                    | true =>
                      have e3 : Go.Op.bytesLess K.last.toList hi.toList = true := h3
                      have hen : ends hi K.last = false := by unfold ends; rw [h2, h3]; rfl
                      clear h3
                      have HK1 : Hid (kidsS (goesS objs lo hi f (L - 1)) lo hi (kids.drop (j + 1)) x1 = y) := Lib.hid (by
                        have h := HKS.out
                        rw [hen, if_neg (by decide)] at h
                        exact h)
                      clear hen
                      go_wp2_with fail
                      go_roundw
                      case rel => exact ⟨j + 1, x1, _, _, by go_num, by omega, HK1, HNU1, HD1⟩
                      case measure => simp [intOf]; omega
                    | false =>
                      have e3 : Go.Op.bytesLess K.last.toList hi.toList = false := h3
                      have hxy : x1 = y := by
                        have h := HKS.out
                        rw [show ends hi K.last = true by unfold ends; rw [h2, h3]; rfl, if_pos rfl] at h
                        exact h
                      subst hxy
                      clear h3 HKS
                      go_wp2_with fail
                      go_end0
                      exact ⟨rfl, _, _, HD1.out.lk, HD1.out.mod, HD1.out.ra, HD1.out.ro⟩
                | false =>
                  have e1 : Go.Op.bytesLess K.last.toList lo.toList = false := h1
                  have b0 : (xj.bad == 0) = true := by simpa using hbx
                  have hgl := goes_len objs lo hi f (L - 1) K xj hkoq.1
                  rw [hkoq.2.1, hkoq.2.2] at hgl
                  rw [show kidS (goesS objs lo hi f (L - 1)) lo K xj = goesS objs lo hi f (L - 1) K xj by unfold kidS; rw [if_pos ⟨hbx, h1⟩]] at hks
                  have hDd := HD.out.keep0 ((Mod.refl (fun _ => False) wr).drew) hblt
                  have hca := HIH.out (L - 1) K xj vaj voj wr.drew (by omega) hLf hkoq.1 hDd.lk hbx ⟨by rw [hkoq.2.1]; omega, by rw [hkoq.2.2]; omega⟩
                  unfold GoPost at hca
                  generalize goesS objs lo hi f (L - 1) K xj = x1 at hks hgl hca
                  have HKS := Lib.hid hks
                  have HCA := Lib.hid hca
                  have HNU1 : Hid ((x1.asked.length : Int) + L * manyL (kids.drop (j + 1)) ≤ 1000000 ∧ (x1.out.length : Int) + manyL (kids.drop (j + 1)) ≤ 1000000) := Lib.hid (by omega)
                  have HDd := Lib.hid hDd
                  have hnt := HD.out.nots
                  have hnn := hnt.1
                  have hna2 := hnt.2 ba rfl
                  have gn1 := fun (w' : World) (mm : Mod (fun g => LkS bl vaj voj g) wr.drew w') => ((Mod.of_drew_l mm).cell (p := ⟨bn, 1, none⟩) HD.out.node.lt hnn).trans n1
                  have gn2 := fun (w' : World) (mm : Mod (fun g => LkS bl vaj voj g) wr.drew w') => ((Mod.of_drew_l mm).cell (p := ⟨bn, 2, none⟩) HD.out.node.lt hnn).trans n2
                  have gy0 := fun (w' : World) (mm : Mod (fun g => LkS bl vaj voj g) wr.drew w') => ((Mod.of_drew_l mm).cell (p := ⟨ba, o + j * 3, none⟩) hbl hna2).trans y0
                  have gy1 := fun (w' : World) (mm : Mod (fun g => LkS bl vaj voj g) wr.drew w') => ((Mod.of_drew_l mm).cell (p := ⟨ba, o + j * 3 + 1, none⟩) hbl hna2).trans y1
                  have gy2 := fun (w' : World) (mm : Mod (fun g => LkS bl vaj voj g) wr.drew w') => ((Mod.of_drew_l mm).cell (p := ⟨ba, o + j * 3 + 2, none⟩) hbl hna2).trans y2
                  have w1 : IntKind.i64.wrap (L - 1) = L - 1 := by rw [IntKind.wrap_i64]; omega
                  rw [hbx] at c3
                  clear h1 hks hnu hdp hLp hLm hbx hgl hca hDd hnt hnn hna2
                  go_wp2_with fail
                  refine region_mT (fun g => LkS bl vaj voj g) (by kernel_rfl) ?_
                  simp only [List.length_cons, List.length_nil, List.replicate]
                  refine take1T 0 ?_
                  refine take1T 1 ?_
                  refine take1T 2 ?_
                  refine take1T 3 ?_
                  refine take1T 4 ?_
                  refine take1T 5 ?_
                  refine take1T 6 ?_
                  refine take1T 7 ?_
                  refine take1T 8 ?_
                  refine take1T 9 ?_
                  refine take1T 10 ?_
                  refine take1T 11 ?_
                  refine take1T 12 ?_
                  refine step1T 13 ?_
                  go_simp
                  refine HCA.out.mono ?_
                  rintro e w1 ⟨rfl, va1, vo1, hlk1, hm1, hra1, hro1⟩
                  refine ⟨.inl hm1, ?_⟩
                  refine wpAnyT_done (by kernel_rfl) ?_
                  have HD1 := Lib.hid (HDd.out.next hlk1 hm1 hra1 hro1 hblt)
                  clear gn1 gn2 gy0 gy1 gy2 hlk1 hm1 hra1 hro1 HCA HDd n1 n2 c3 y0 y1 y2
                  have n2z := HD1.out.node.cell (o := 2) rfl
                  obtain ⟨A9, c9, he9, _, hcz, _, _⟩ := own_cells HD1.out.ol
                  obtain ⟨rfl, rfl⟩ : (some ⟨ba, o, none⟩) = A9 ∧ ck = c9 := by simpa [pnK] using he9
                  have y0z : w1.cell? ⟨ba, o + j * 3, none⟩ = some (.string K.last) := by
                    rcases hcz with h | ⟨bz, oz, hz, hcellz⟩
                    · have := flat_len lc_len kids
                      rw [show kids.flatMap lc = [] from h] at this
                      simp at this; omega
                    · obtain ⟨rfl, rfl⟩ : ba = bz ∧ o = oz := by simpa using hz
                      have := hcellz _ _ (flat_get lc_len kids j 0 hjl (by omega))
                      rw [Nat.add_zero, HKE.out] at this
                      exact this
                  clear he9 hcz
                  cases h2 : hi.toList.isEmpty with
                  | true =>
                    have hen : ends hi K.last = false := by unfold ends; rw [h2]; rfl
                    have HK1 : Hid (kidsS (goesS objs lo hi f (L - 1)) lo hi (kids.drop (j + 1)) x1 = y) := Lib.hid (by
                      have h := HKS.out
                      rw [hen, if_neg (by decide)] at h
                      exact h)
                    clear hen
                    go_wp2_with fail
                    go_roundw
                    case rel => exact ⟨j + 1, x1, _, _, by go_num, by omega, HK1, HNU1, HD1⟩
                    case measure => simp [intOf]; omega
                  | false =>
                    cases h3 : ltS K.last hi with
                    | true =>
                      have e3 : Go.Op.bytesLess K.last.toList hi.toList = true := h3
                      have hen : ends hi K.last = false := by unfold ends; rw [h2, h3]; rfl
                      clear h3
                      have HK1 : Hid (kidsS (goesS objs lo hi f (L - 1)) lo hi (kids.drop (j + 1)) x1 = y) := Lib.hid (by
                        have h := HKS.out
                        rw [hen, if_neg (by decide)] at h
                        exact h)
                      clear hen
                      go_wp2_with fail
                      go_roundw
                      case rel => exact ⟨j + 1, x1, _, _, by go_num, by omega, HK1, HNU1, HD1⟩
                      case measure => simp [intOf]; omega
                    | false =>
                      have e3 : Go.Op.bytesLess K.last.toList hi.toList = false := h3
                      have hxy : x1 = y := by
                        have h := HKS.out
                        rw [show ends hi K.last = true by unfold ends; rw [h2, h3]; rfl, if_pos rfl] at h
                        exact h
                      subst hxy
                      clear h3 HKS
                      go_wp2_with fail
                      go_end0
                      exact ⟨rfl, _, _, HD1.out.lk, HD1.out.mod, HD1.out.ra, HD1.out.ro⟩
              · have b0 : (xj.bad == 0) = false := by simpa using hbx
                rw [show kidS (goesS objs lo hi f (L - 1)) lo K xj = xj by unfold kidS; rw [if_neg (fun e => hbx e.1)]] at hks
                have HKS := Lib.hid hks
                have HNU1 : Hid ((xj.asked.length : Int) + L * manyL (kids.drop (j + 1)) ≤ 1000000 ∧ (xj.out.length : Int) + manyL (kids.drop (j + 1)) ≤ 1000000) := Lib.hid (by omega)
                clear hks hnu hdp hLp hLm
                obtain ⟨x1, hx1⟩ : ∃ x1, xj = x1 := ⟨_, rfl⟩
                rw [hx1] at HKS HNU1
                have HD1 := HD
                rw [hx1] at HD1
                clear hx1
                have n2z := HD1.out.node.cell (o := 2) rfl
                obtain ⟨A9, c9, he9, _, hcz, _, _⟩ := own_cells HD1.out.ol
                obtain ⟨rfl, rfl⟩ : (some ⟨ba, o, none⟩) = A9 ∧ ck = c9 := by simpa [pnK] using he9
                have y0z : wr.cell? ⟨ba, o + j * 3, none⟩ = some (.string K.last) := by
                  rcases hcz with h | ⟨bz, oz, hz, hcellz⟩
                  · have := flat_len lc_len kids
                    rw [show kids.flatMap lc = [] from h] at this
                    simp at this; omega
                  · obtain ⟨rfl, rfl⟩ : ba = bz ∧ o = oz := by simpa using hz
                    have := hcellz _ _ (flat_get lc_len kids j 0 hjl (by omega))
                    rw [Nat.add_zero, HKE.out] at this
                    exact this
                clear he9 hcz
                cases h2 : hi.toList.isEmpty with
                | true =>
                  have hen : ends hi K.last = false := by unfold ends; rw [h2]; rfl
                  have HK1 : Hid (kidsS (goesS objs lo hi f (L - 1)) lo hi (kids.drop (j + 1)) x1 = y) := Lib.hid (by
                    have h := HKS.out
                    rw [hen, if_neg (by decide)] at h
                    exact h)
                  clear hen
                  go_wp2_with fail
                  go_roundw
                  case rel => exact ⟨j + 1, x1, _, _, by go_num, by omega, HK1, HNU1, HD1⟩
                  case measure => simp [intOf]; omega
                | false =>
                  cases h3 : ltS K.last hi with
                  | true =>
                    have e3 : Go.Op.bytesLess K.last.toList hi.toList = true := h3
                    have hen : ends hi K.last = false := by unfold ends; rw [h2, h3]; rfl
                    clear h3
                    have HK1 : Hid (kidsS (goesS objs lo hi f (L - 1)) lo hi (kids.drop (j + 1)) x1 = y) := Lib.hid (by
                      have h := HKS.out
                      rw [hen, if_neg (by decide)] at h
                      exact h)
                    clear hen
                    go_wp2_with fail
                    go_roundw
                    case rel => exact ⟨j + 1, x1, _, _, by go_num, by omega, HK1, HNU1, HD1⟩
                    case measure => simp [intOf]; omega
                  | false =>
                    have e3 : Go.Op.bytesLess K.last.toList hi.toList = false := h3
                    have hxy : x1 = y := by
                      have h := HKS.out
                      rw [show ends hi K.last = true by unfold ends; rw [h2, h3]; rfl, if_pos rfl] at h
                      exact h
                    subst hxy
                    clear h3 HKS
                    go_wp2_with fail
                    go_end0
                    exact ⟨rfl, _, _, HD1.out.lk, HD1.out.mod, HD1.out.ra, HD1.out.ro⟩
            · have j1 : ¬ (j : Int) < (kids.length : Int) := by omega
              have hxy : xj = y := by
                rw [← HKY.out, List.drop_of_length_le (by omega)]
                rfl
              subst hxy
              clear HKY HNU
              go_wp2_with fail
              go_end0
              exact ⟨rfl, _, _, HD.out.lk, HD.out.mod, HD.out.ra, HD.out.ro⟩
end Prolly
end Go.Proofs.YtpoljpjcmigobaaDoor
