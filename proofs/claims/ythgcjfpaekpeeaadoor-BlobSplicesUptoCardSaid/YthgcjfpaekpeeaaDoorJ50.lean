/- Joined texts: BlobSa, BlobSb. -/
import Derived.Test.YthgcjfpaekpeeaaDoorJ42
/- Plain words for Splice: what is read whole has the file's size. -/
namespace Go.Proofs.YthgcjfpaekpeeaaDoor
set_option linter.unusedVariables false
set_option linter.unusedSimpArgs false
open Go.RowKit K Wire Go.Maps
namespace Blob
open Go.Proofs.YthgcjfpaekpeeaaDoor.Obj

theorem rdF_full {objs : List Ob} {lo hi : Int} {l : Nat} : ∀ (kids : List Part) (at_ : Int) (x : BS), (∀ k ∈ kids, 1 ≤ k.size) →
    (∀ k ∈ kids, ∀ (a : Int) (y : BS), lo ≤ a → a + k.size ≤ hi → (rdS objs lo hi l k a y).bad = 0 → ((rdS objs lo hi l k a y).data.length : Int) = y.data.length + k.size) →
    lo ≤ at_ → at_ + sizes kids ≤ hi → (rdF objs lo hi l kids at_ x).2.bad = 0 → ((rdF objs lo hi l kids at_ x).2.data.length : Int) = x.data.length + sizes kids
  | [], _, _, _, _, _, _, _ => by simp [rdF_nil, sizes]
  | k :: kids, at_, x, h1, h, hlo, hhi, hb => by
    have e : sizes (k :: kids) = k.size + sizes kids := by simp [sizes]
    have hk := h1 k (List.mem_cons_self ..)
    have hk2 := fun k' hk' => h1 k' (List.mem_cons_of_mem k hk')
    have hs : 0 ≤ sizes kids := by have := sum_take_le kids hk2; unfold sizes; omega
    rw [rdF_cons] at hb ⊢
    have hb1 : (rdS objs lo hi l k at_ x).bad = 0 := by
      by_cases hz : (rdS objs lo hi l k at_ x).bad = 0
      · exact hz
      · rw [rdF_bad objs lo hi l kids _ _ hz] at hb; exact absurd hb hz
    have h2 := h k (List.mem_cons_self ..) at_ x hlo (by omega) hb1
    have h3 := rdF_full kids (at_ + k.size) _ hk2 (fun k' hk' => h k' (List.mem_cons_of_mem k hk')) (by omega) (by omega) hb
    rw [h3, h2, e]; omega
theorem some_full {s : ByteArray} {p : Part} (h : (s.size : Int) = p.size) (h0 : 0 ≤ p.size) {a b : Int} (ha : a = 0) (hb : b = p.size) : ((some_ s.data.toList a b).length : Int) = p.size := by
  have hl : s.data.toList.length = s.size := by simp
  rw [some_len (by omega) (by omega) (by rw [hl]; omega)]; omega
theorem rdS_full {objs : List Ob} {lo hi : Int} : ∀ (l : Nat) (p : Part) (at_ : Int) (x : BS), 1 ≤ p.size → lo ≤ at_ → at_ + p.size ≤ hi → (rdS objs lo hi l p at_ x).bad = 0 → ((rdS objs lo hi l p at_ x).data.length : Int) = x.data.length + p.size
  | 0, p, at_, x, hp, hlo, hhi, hb => by
    have hx : x.bad = 0 := by
      by_cases hz : x.bad = 0
      · exact hz
      · rw [rdS_bad objs lo hi 0 p at_ x hz] at hb; exact hb
    rw [rdS_eq, rdB_at hx ⟨by omega, by omega⟩] at hb ⊢
    cases hn : nodeOf objs p ((0 : Nat) : Int) with
    | bad e => rw [hn] at hb; exact absurd hb (node_bad hn)
    | chunk s =>
      have := some_full (node_chunk hn).1 (by omega) (a := max (lo - at_) 0) (b := min (hi - at_) p.size) (by omega) (by omega)
      simp only [List.length_append]; omega
    | fan L kids => have := fan_level hn; omega
  | l + 1, p, at_, x, hp, hlo, hhi, hb => by
    have hx : x.bad = 0 := by
      by_cases hz : x.bad = 0
      · exact hz
      · rw [rdS_bad objs lo hi (l + 1) p at_ x hz] at hb; exact hb
    rw [rdS_eq, rdB_at hx ⟨by omega, by omega⟩] at hb ⊢
    cases hn : nodeOf objs p ((l + 1 : Nat) : Int) with
    | bad e => rw [hn] at hb; exact absurd hb (node_bad hn)
    | chunk s =>
      have := some_full (node_chunk hn).1 (by omega) (a := max (lo - at_) 0) (b := min (hi - at_) p.size) (by omega) (by omega)
      simp only [List.length_append]; omega
    | fan L kids =>
      obtain ⟨h0, h1, h2, _, _, hs, hk⟩ := fan_level hn
      have hl : (L - 1).toNat = l := by omega
      rw [hn] at hb
      dsimp only at hb ⊢
      rw [hl] at hb ⊢
      have hs2 : sizes kids = p.size := hs
      have := rdF_full kids at_ (x.ask p.id) (fun k hk' => (hk k hk').1) (fun k hk' a y h1 h2 h3 => rdS_full l k a y (hk k hk').1 h1 h2 h3) hlo (by omega) hb
      rw [this, hs2]; rfl
theorem rdR_full {objs : List Ob} {p : Part} (hp : 1 ≤ p.size) (h : (rdR objs 0 p.size p ⟨[], [], [], 0⟩).bad = 0) : ((rdR objs 0 p.size p ⟨[], [], [], 0⟩).data.length : Int) = p.size := by
  unfold rdR at h ⊢
  cases hn : nodeOf objs p (-1) with
  | bad e => rw [hn] at h; exact absurd h (node_bad hn)
  | chunk s =>
    have := some_full (node_chunk hn).1 (by omega) (a := max 0 0) (b := min p.size p.size) (by omega) (by omega)
    simp only [List.nil_append]; exact this
  | fan L kids =>
    obtain ⟨h0, h1, h2, _, _, hs, hk⟩ := fan_level hn
    rw [hn] at h
    have hs2 : sizes kids = p.size := hs
    have h' : (rdF objs 0 p.size (L - 1).toNat kids 0 (BS.ask ⟨[], [], [], 0⟩ p.id)).2.bad = 0 := h
    have := rdF_full kids 0 (BS.ask ⟨[], [], [], 0⟩ p.id) (fun k hk' => (hk k hk').1) (fun k hk' a y h1 h2 h3 => rdS_full (L - 1).toNat k a y (hk k hk').1 h1 h2 h3) (by omega) (by omega) h'
    rw [hs2] at this
    have e : (BS.ask ⟨[], [], [], 0⟩ p.id).data.length = 0 := rfl
    rw [e] at this
    have h2 : (((rdF objs 0 p.size (L - 1).toNat kids 0 (BS.ask ⟨[], [], [], 0⟩ p.id)).2.data.length : Nat) : Int) = p.size := by omega
    exact h2
theorem readL_full {objs : List Ob} {root : Part} (hr : rightP root = true) (h : (readL objs root 0 root.size).2.2 = 0) : ((readL objs root 0 root.size).1.length : Int) = root.size := by
  have hp := rightP_spec hr
  unfold readL at h ⊢
  rw [if_pos ⟨hr, by omega, hp.2.1⟩] at h ⊢
  by_cases hz : root.size = 0
  · rw [if_neg (by omega)]; simp [hz]
  · rw [if_pos ⟨by omega, hz⟩] at h ⊢
    simp only [show ¬ (root.size < root.size - 0) by omega, if_false] at h ⊢
    by_cases hb : (rdR objs 0 root.size root ⟨[], [], [], 0⟩).bad = 0
    · rw [if_neg (fun e => e hb)]
      exact rdR_full (by omega) hb
    · rw [if_pos hb] at h
      exact absurd h hb
/-- what Splice makes -/
noncomputable def spliceL (objs : List Ob) (root : Part) (from_ n : Int) (data : List UInt8) : Part × List Ob × Int :=
  if rightP root = true ∧ 0 ≤ from_ ∧ 0 ≤ n ∧ from_ ≤ root.size then
    if (readL objs root 0 root.size).2.2 ≠ 0 then (⟨⟨#[]⟩, 0⟩, [], (readL objs root 0 root.size).2.2)
    else if 262144 < data.length then (⟨⟨#[]⟩, 0⟩, [], 100)
    else buildR ((readL objs root 0 root.size).1.take from_.toNat ++ data ++ (readL objs root 0 root.size).1.drop (from_ + min n (root.size - from_)).toNat)
  else (⟨⟨#[]⟩, 0⟩, [], 2)
theorem size_of_list {s : ByteArray} {l : List UInt8} (h : s.data.toList = l) : s.size = l.length := by rw [← h]; simp
theorem run_upto (s : ByteArray) (c : Int) (h0 : 0 ≤ c) (h1 : c ≤ s.size) (w' : World) :
    (Instr.slice 9 (.string s) none (some (.int .i64 c)) none).run Tryd.prog w' = .ok (.string ⟨(s.data.toList.take c.toNat).toArray⟩) w' := by
  rw [run_slice_string_h w' 9 s Tryd.underlying9 .i64 c h0 h1]
  congr 2
  apply ByteArray.ext
  apply Array.toList_inj.1
  simp [ByteArray.data_extract, Array.toList_extract, List.extract]
theorem run_from (s : ByteArray) (c : Int) (h0 : 0 ≤ c) (h1 : c ≤ s.size) (w' : World) :
    (Instr.slice 9 (.string s) (some (.int .i64 c)) none none).run Tryd.prog w' = .ok (.string ⟨(s.data.toList.drop c.toNat).toArray⟩) w' := by
  rw [run_slice_string_l w' 9 s Tryd.underlying9 .i64 c h0 h1]
  congr 2
  apply ByteArray.ext
  apply Array.toList_inj.1
  have hl : s.data.toList.length = s.size := by simp
  simp only [ByteArray.data_extract, Array.toList_extract, List.extract]
  rw [List.take_of_length_le (by rw [List.length_drop]; omega)]
end Blob
end Go.Proofs.YthgcjfpaekpeeaaDoor
/- The walks of Splice, and of the reference's. -/
namespace Go.Proofs.YthgcjfpaekpeeaaDoor
set_option linter.unusedVariables false
set_option linter.unusedSimpArgs false
open Go.RowKit K Wire Go.Maps
namespace Blob
open Go.Proofs.YthgcjfpaekpeeaaDoor.Obj

theorem splice_end {w4 : World} {b : Nat} {x y : Value} (hb : Has w4 b [x, y] 25) :
    Mod (fun k => k = b) w4 ((w4.setCell ⟨b, 0, none⟩ (.string ⟨#[]⟩)).setCell ⟨b, 1, none⟩ (.int .i64 0)) ∧
      ((w4.setCell ⟨b, 0, none⟩ (.string ⟨#[]⟩)).setCell ⟨b, 1, none⟩ (.int .i64 0)).cell? ⟨b, 0, none⟩ = some (.string ⟨#[]⟩) ∧ ((w4.setCell ⟨b, 0, none⟩ (.string ⟨#[]⟩)).setCell ⟨b, 1, none⟩ (.int .i64 0)).cell? ⟨b, 1, none⟩ = some (.int .i64 0) :=
  ⟨((Mod.refl (fun k => k = b) w4).set1 rfl _ _).set1 rfl _ _, ((hb.set 0 _).set 1 _).cell (o := 0) rfl, ((hb.set 0 _).set 1 _).cell (o := 1) rfl⟩
theorem _root_.Go.Proofs.YthgcjfpaekpeeaaDoor.K.Mod.setCell2 {S : Nat → Prop} {w w4 w5 : World} (h : Mod S w w4) (k : Mod (fun i => i = w.heap.size + 1) w4 w5) : Mod S w w5 :=
  Mod.trans h k (fun i hi e => by omega)
def SplPost (G : Gt) (r : Part × List Ob × Int) (w : World) (e : Ending) (w' : World) : Prop :=
  ∃ v, e = .returned (.tuple #[.agg #[.string r.1.id, .int .i64 r.1.size], v, .int .i64 r.2.2]) ∧ w'.ownsRow w.heap.size 60 2 v r.2.1.length (r.2.1.flatMap oc) ∧ Mod (Ty G.B tR w) w w'
def RSplPost (r : Part × List Ob × Int) (w : World) (e : Ending) (w' : World) : Prop :=
  ∃ v, e = .returned (.tuple #[.agg #[.string r.1.id, .int .i64 r.1.size], v, .int .i64 r.2.2]) ∧ w'.ownsRow w.heap.size 60 2 v r.2.1.length (r.2.1.flatMap oc) ∧ Mod (fun _ => False) w w'

set_option maxRecDepth 100000 in
set_option maxHeartbeats 8000000 in
theorem pSplice_calls {G : Gt} {objs : List Ob} (ok : GtOk G objs) (hob : ObsOk objs) (root : Part) (from_ n : Int) (data : ByteArray) (w : World) (hI : G.I [] w) (hB : G.B ≤ w.heap.size) (hK : ∀ w', Mod (Ty G.B tR w) w w' → Hash.Keys w') (hf : In64 from_) (hn : In64 n) (hd : data.size ≤ 300000) :
    Calls Tryd.prog 16 #[.func (.func G.ks) #[] G.caps, .agg #[.string root.id, .int .i64 root.size], .int .i64 from_, .int .i64 n, .string data] w (SplPost G (spliceL objs root from_ n data.data.toList) w) := by
  have hm1 := ((Mod.refl (fun _ => False) w).alloc (.cells #[.string root.id, .int .i64 root.size] 25)).alloc (.cells #[.string ⟨#[]⟩, .int .i64 0] 25)
  have hb1 : Has ((w.alloc (.cells #[.string root.id, .int .i64 root.size] 25)).alloc (.cells #[.string ⟨#[]⟩, .int .i64 0] 25)) w.heap.size [.string root.id, .int .i64 root.size] 25 := (Has.new w _ _).alloc _
  have hr1 : Has ((w.alloc (.cells #[.string root.id, .int .i64 root.size] 25)).alloc (.cells #[.string ⟨#[]⟩, .int .i64 0] 25)) (w.heap.size + 1) [.string ⟨#[]⟩, .int .i64 0] 25 := Has.lit (by simp)
  have x0 := hb1.cell (o := 0) rfl
  have x1 := hb1.cell (o := 1) rfl
  obtain ⟨r, hr⟩ : ∃ r, spliceL objs root from_ n data.data.toList = r := ⟨_, rfl⟩
  rw [hr]
  unfold spliceL at hr
  unfold In64 at hf hn
  have hdl : data.data.toList.length = data.size := by simp
  rw [hdl] at hr
  go_enter Tryd.func16, Tryd.ntmps16
  go_wp2_with fail
  refine (right_calls root _).mono ?_
  rintro e w2 ⟨rfl, hm2⟩
  have hb2 := hb1.keep hm2 (fun h => h)
  have hr2 := hr1.keep hm2 (fun h => h)
  have hm := Mod.trans hm1 hm2 (fun _ _ h => h)
  have y0 := hb2.cell (o := 0) rfl
  have y1 := hb2.cell (o := 1) rfl
  have c0 := hr2.cell (o := 0) rfl
  have c1 := hr2.cell (o := 1) rfl
  have f0 := hr2.frozen 0
  have f1 := hr2.frozen 1
  have HI := Lib.hid (ok.keep _ _ _ _ hI hm (fun _ _ h => h))
  have HM0 := Lib.hid (hm.mono (S' := Ty G.B tR w) fun _ _ h => h.elim)
  have HMF := Lib.hid hm
  have HR2 := Lib.hid hr2
  have HB2 := Lib.hid hb2
  have HK := Lib.hid hK
  have hwz : w.heap.size + 2 ≤ w2.heap.size := by have := hr2.lt; omega
  clear hb2 hr2 hm hm2 hm1 hb1 hr1 x0 x1 hI hK hdl
  by_cases h1 : rightP root = true
  · have hrp := rightP_spec h1
    have HRT := Lib.hid h1
    rw [h1]
    by_cases h2 : 0 ≤ from_
    · have h2' : ¬ from_ < 0 := by omega
      by_cases h3 : 0 ≤ n
      · have h3' : ¬ n < 0 := by omega
        by_cases h4 : from_ ≤ root.size
        · have h4' : ¬ root.size < from_ := by omega
          rw [if_pos ⟨h1, h2, h3, h4⟩] at hr
          have HPR := Lib.hid (pRead_calls ok hob root 0 root.size w2 HI.out (by omega) (by unfold In64; omega) (by unfold In64; omega))
          have hfull := fun h => readL_full (objs := objs) h1 h
          unfold ReadPost at HPR
          clear h1
          generalize readL objs root 0 root.size = RD at *
          obtain ⟨DT, AS, BD⟩ := RD
          dsimp only at HPR hr hfull
          have HFULL := Lib.hid hfull
          have HR := Lib.hid hr
          clear hr hfull
          go_wp2_with fail
          refine HPR.out.mono ?_
          rintro e w3 ⟨rfl, _, hm3⟩
          have hr3 := HR2.out.keep hm3 (Ty.not (Has.row HR2.out) (by decide))
          have hb3 := HB2.out.keep hm3 (Ty.not (Has.row HB2.out) (by decide))
          have hM3 : Mod (Ty G.B tR w) w w3 := Mod.trans HM0.out hm3 (fun i hi h => by
            obtain ⟨hb, cur, fr, T, g1, g2⟩ := h
            rw [HMF.out.block i hi (fun h => h)] at g1
            exact ⟨hb, cur, fr, T, g1, g2⟩)
          have u0 := hb3.cell (o := 0) rfl
          have u1 := hb3.cell (o := 1) rfl
          have d0 := hr3.cell (o := 0) rfl
          have d1 := hr3.cell (o := 1) rfl
          have g0 := hr3.frozen 0
          have g1 := hr3.frozen 1
          have HM3 := Lib.hid hM3
          have HR3 := Lib.hid hr3
          have HB3 := Lib.hid hb3
          obtain ⟨S, hS⟩ : ∃ S : ByteArray, (⟨DT.toArray⟩ : ByteArray) = S := ⟨_, rfl⟩
          rw [hS]
          have HSD : Hid (S.data.toList = DT) := Lib.hid (by rw [← hS])
          clear hr3 hb3 hM3 hm3 y0 y1 c0 c1 f0 f1 hS HPR
          have hr := HR.out
          by_cases hb0 : BD = 0
          · have b1 : (BD != 0) = false := by simpa using hb0
            rw [if_neg (fun h => h hb0)] at hr
            have HE0 := Lib.hid hb0
            clear hb0
            by_cases h5 : 262144 < data.size
            · rw [if_pos h5] at hr
              have h5' : (262144 : Int) < (data.size : Int) := by omega
              subst hr
              obtain ⟨E1, z0, z1⟩ := splice_end HR3.out
              have HE1 := Lib.hid (HM3.out.setCell2 E1)
              clear E1
              go_wp2_with fail
              refine bodyPost_ret (v := .tuple #[.agg #[.string ⟨#[]⟩, .int .i64 0], .slice none 0 0, .int .i64 100]) (by simp [results, Tryd.results16, go_sem, z0, z1]) rfl ?_
              unfold SplPost
              exact ⟨_, rfl, World.ownsRow_nil _ _ _ _, HE1.out⟩
            · rw [if_neg h5] at hr
              have h5' : ¬ (262144 : Int) < (data.size : Int) := by omega
              have hSz : (S.size : Int) = root.size := by have g1 := HFULL.out HE0.out; have g2 := size_of_list HSD.out; omega
              have hw0 : IntKind.i64.wrap (root.size - from_) = root.size - from_ := by rw [IntKind.wrap_i64]; omega
              have hsl1 := run_upto S from_ (by omega) (by omega)
              have hsl2 := run_from S (from_ + min n (root.size - from_)) (by omega) (by omega)
              obtain ⟨P1, hP1⟩ : ∃ P1 : ByteArray, (⟨(S.data.toList.take from_.toNat).toArray⟩ : ByteArray) = P1 := ⟨_, rfl⟩
              obtain ⟨P3, hP3⟩ : ∃ P3 : ByteArray, (⟨(S.data.toList.drop (from_ + min n (root.size - from_)).toNat).toArray⟩ : ByteArray) = P3 := ⟨_, rfl⟩
              rw [hP1] at hsl1
              rw [hP3] at hsl2
              have hSl : S.data.toList.length = S.size := by simp
              have hs1 : P1.size ≤ 262144 := by rw [← hP1]; simp only [ByteArray.size, List.size_toArray, List.length_take]; omega
              have hs3 : P3.size ≤ 262144 := by rw [← hP3]; simp only [ByteArray.size, List.size_toArray, List.length_drop]; omega
              have hadd1 := fun w' => run_string_add_sum (P := Tryd.prog) w' P1 data (by omega)
              have hz2 : (P1 ++ data).size = P1.size + data.size := ByteArray.size_append
              obtain ⟨P2, hP2⟩ : ∃ P2, P1 ++ data = P2 := ⟨_, rfl⟩
              rw [hP2] at hadd1 hz2
              have hadd2 := fun w' => run_string_add_sum (P := Tryd.prog) w' P2 P3 (by omega)
              have hz4 : (P2 ++ P3).size = P2.size + P3.size := ByteArray.size_append
              obtain ⟨P4, hP4⟩ : ∃ P4, P2 ++ P3 = P4 := ⟨_, rfl⟩
              rw [hP4] at hadd2 hz4
              have hP : P4.data.toList = DT.take from_.toNat ++ data.data.toList ++ DT.drop (from_ + min n (root.size - from_)).toNat := by
                rw [← hP4, ← hP2, ← hP1, ← hP3, ← HSD.out]
                have hE : (from_ + min n (root.size - from_)).toNat = (from_ + min n (root.size - from_)).toNat := by congr 1 <;> omega
                rw [hE]
                simp [ByteArray.data_append]
              have hw1 : IntKind.i64.wrap (from_ + min n (root.size - from_)) = from_ + min n (root.size - from_) := by rw [IntKind.wrap_i64]; omega
              have hbd := fun w' (h : Hash.Keys w') => build_calls P4 w' h (by omega)
              unfold BuildPost at hbd
              rw [hP, hr] at hbd
              have HBD := Lib.hid hbd
              have hl3 := HB3.out.lt
              have fv0 := fun (w' : World) (mm : Mod0 w3.drew w') => ((Mod.of_drew_l mm).cell (p := ⟨w.heap.size, 1, none⟩) hl3 (fun h => h)).trans u1
              clear hP1 hP2 hP3 hP4 hP hr hbd hSl
              go_wp2_with fail
              refine region_mT (fun _ => False) (by kernel_rfl) ?_
              simp only [List.length_cons, List.length_nil, List.replicate]
              refine take0T (v := ?v1) (oi := ?o1) 0 ?hi1 (by kernel_rfl) (by kernel_rfl) (by kernel_rfl) ?hq1 ?hy1 ?_
              case hi1 => (simp only [List.getElem?_toArray, List.getElem?_cons_zero, List.getElem?_cons_succ]; rfl)
              case hq1 => exact fun _ _ _ h => h
              case hy1 => first | (refine ry_notS ?_; rfl) | (refine ry_runS (by rfl) (fun w' hw' => ?_); go_simp; try rfl)
              simp only [Act.put, List.setIfInBounds_toArray, List.set_cons_zero, List.set_cons_succ]
              refine take0T (v := ?v2) (oi := ?o2) 1 ?hi2 (by kernel_rfl) (by kernel_rfl) (by kernel_rfl) ?hq2 ?hy2 ?_
              case hi2 => (simp only [List.getElem?_toArray, List.getElem?_cons_zero, List.getElem?_cons_succ]; rfl)
              case hq2 => exact fun _ _ _ h => h
              case hy2 => first | (refine ry_notS ?_; rfl) | (refine ry_runS (by rfl) (fun w' hw' => ?_); go_simp; try rfl)
              simp only [Act.put, List.setIfInBounds_toArray, List.set_cons_zero, List.set_cons_succ]
              refine take0T (v := ?v3) (oi := ?o3) 2 ?hi3 (by kernel_rfl) (by kernel_rfl) (by kernel_rfl) ?hq3 ?hy3 ?_
              case hi3 => (simp only [List.getElem?_toArray, List.getElem?_cons_zero, List.getElem?_cons_succ]; rfl)
              case hq3 => exact fun _ _ _ h => h
              case hy3 => first | (refine ry_notS ?_; rfl) | (refine ry_runS (by rfl) (fun w' hw' => ?_); go_simp; try rfl)
              simp only [Act.put, List.setIfInBounds_toArray, List.set_cons_zero, List.set_cons_succ]
              refine take0T (v := ?v4) (oi := ?o4) 3 ?hi4 (by kernel_rfl) (by kernel_rfl) (by kernel_rfl) ?hq4 ?hy4 ?_
              case hi4 => (simp only [List.getElem?_toArray, List.getElem?_cons_zero, List.getElem?_cons_succ]; rfl)
              case hq4 => exact fun _ _ _ h => h
              case hy4 => first | (refine ry_notS ?_; rfl) | (refine ry_runS (by rfl) (fun w' hw' => ?_); go_simp; try rfl)
              simp only [Act.put, List.setIfInBounds_toArray, List.set_cons_zero, List.set_cons_succ]
              refine take0T (v := ?v5) (oi := ?o5) 4 ?hi5 (by kernel_rfl) (by kernel_rfl) (by kernel_rfl) ?hq5 ?hy5 ?_
              case hi5 => (simp only [List.getElem?_toArray, List.getElem?_cons_zero, List.getElem?_cons_succ]; rfl)
              case hq5 => exact fun _ _ _ h => h
              case hy5 => first | (refine ry_notS ?_; rfl) | (refine ry_runS (by rfl) (fun w' hw' => ?_); go_simp; try rfl)
              simp only [Act.put, List.setIfInBounds_toArray, List.set_cons_zero, List.set_cons_succ]
              refine take0T (v := ?v6) (oi := ?o6) 5 ?hi6 (by kernel_rfl) (by kernel_rfl) (by kernel_rfl) ?hq6 ?hy6 ?_
              case hi6 => (simp only [List.getElem?_toArray, List.getElem?_cons_zero, List.getElem?_cons_succ]; rfl)
              case hq6 => exact fun _ _ _ h => h
              case hy6 => first | (refine ry_notS ?_; rfl) | (refine ry_runS (by rfl) (fun w' hw' => ?_); go_simp; try rfl)
              simp only [Act.put, List.setIfInBounds_toArray, List.set_cons_zero, List.set_cons_succ]
              refine take0T (v := ?v7) (oi := ?o7) 6 ?hi7 (by kernel_rfl) (by kernel_rfl) (by kernel_rfl) ?hq7 ?hy7 ?_
              case hi7 => (simp only [List.getElem?_toArray, List.getElem?_cons_zero, List.getElem?_cons_succ]; rfl)
              case hq7 => exact fun _ _ _ h => h
              case hy7 => first | (refine ry_notS ?_; rfl) | (refine ry_runS (by rfl) (fun w' hw' => ?_); go_simp; try rfl)
              simp only [Act.put, List.setIfInBounds_toArray, List.set_cons_zero, List.set_cons_succ]
              refine take0T (v := ?v8) (oi := ?o8) 7 ?hi8 (by kernel_rfl) (by kernel_rfl) (by kernel_rfl) ?hq8 ?hy8 ?_
              case hi8 => (simp only [List.getElem?_toArray, List.getElem?_cons_zero, List.getElem?_cons_succ]; rfl)
              case hq8 => exact fun _ _ _ h => h
              case hy8 => first | (refine ry_notS ?_; rfl) | (refine ry_runS (by rfl) (fun w' hw' => ?_); go_simp; try rfl)
              simp only [Act.put, List.setIfInBounds_toArray, List.set_cons_zero, List.set_cons_succ]
              refine take0T (v := ?v9) (oi := ?o9) 8 ?hi9 (by kernel_rfl) (by kernel_rfl) (by kernel_rfl) ?hq9 ?hy9 ?_
              case hi9 => (simp only [List.getElem?_toArray, List.getElem?_cons_zero, List.getElem?_cons_succ]; rfl)
              case hq9 => exact fun _ _ _ h => h
              case hy9 => first | (refine ry_notS ?_; rfl) | (refine ry_runS (by rfl) (fun w' hw' => ?_); go_simp; try rfl)
              simp only [Act.put, List.setIfInBounds_toArray, List.set_cons_zero, List.set_cons_succ]
              refine take0T (v := ?v10) (oi := ?o10) 9 ?hi10 (by kernel_rfl) (by kernel_rfl) (by kernel_rfl) ?hq10 ?hy10 ?_
              case hi10 => (simp only [List.getElem?_toArray, List.getElem?_cons_zero, List.getElem?_cons_succ]; rfl)
              case hq10 => exact fun _ _ _ h => h
              case hy10 => first | (refine ry_notS ?_; rfl) | (refine ry_runS (by rfl) (fun w' hw' => ?_); go_simp; try rfl)
              simp only [Act.put, List.setIfInBounds_toArray, List.set_cons_zero, List.set_cons_succ]
              refine take0T (v := ?v11) (oi := ?o11) 10 ?hi11 (by kernel_rfl) (by kernel_rfl) (by kernel_rfl) ?hq11 ?hy11 ?_
              case hi11 => (simp only [List.getElem?_toArray, List.getElem?_cons_zero, List.getElem?_cons_succ]; rfl)
              case hq11 => exact fun _ _ _ h => h
              case hy11 => first | (refine ry_notS ?_; rfl) | (refine ry_runS (by rfl) (fun w' hw' => ?_); go_simp; try rfl)
              simp only [Act.put, List.setIfInBounds_toArray, List.set_cons_zero, List.set_cons_succ]
              refine take0T (v := ?v12) (oi := ?o12) 11 ?hi12 (by kernel_rfl) (by kernel_rfl) (by kernel_rfl) ?hq12 ?hy12 ?_
              case hi12 => (simp only [List.getElem?_toArray, List.getElem?_cons_zero, List.getElem?_cons_succ]; rfl)
              case hq12 => exact fun _ _ _ h => h
              case hy12 => first | (refine ry_notS ?_; rfl) | (refine ry_runS (by rfl) (fun w' hw' => ?_); go_simp; try rfl)
              simp only [Act.put, List.setIfInBounds_toArray, List.set_cons_zero, List.set_cons_succ]
              refine take0T (v := ?v13) (oi := ?o13) 12 ?hi13 (by kernel_rfl) (by kernel_rfl) (by kernel_rfl) ?hq13 ?hy13 ?_
              case hi13 => (simp only [List.getElem?_toArray, List.getElem?_cons_zero, List.getElem?_cons_succ]; rfl)
              case hq13 => exact fun _ _ _ h => h
              case hy13 => first | (refine ry_notS ?_; rfl) | (refine ry_runS (by rfl) (fun w' hw' => ?_); go_simp; try rfl)
              simp only [Act.put, List.setIfInBounds_toArray, List.set_cons_zero, List.set_cons_succ]
              refine take0T (v := ?v14) (oi := ?o14) 13 ?hi14 (by kernel_rfl) (by kernel_rfl) (by kernel_rfl) ?hq14 ?hy14 ?_
              case hi14 => (simp only [List.getElem?_toArray, List.getElem?_cons_zero, List.getElem?_cons_succ]; rfl)
              case hq14 => exact fun _ _ _ h => h
              case hy14 => first | (refine ry_notS ?_; rfl) | (refine ry_runS (by rfl) (fun w' hw' => ?_); go_simp; try rfl)
              simp only [Act.put, List.setIfInBounds_toArray, List.set_cons_zero, List.set_cons_succ]
              refine take0T (v := ?v15) (oi := ?o15) 14 ?hi15 (by kernel_rfl) (by kernel_rfl) (by kernel_rfl) ?hq15 ?hy15 ?_
              case hi15 => (simp only [List.getElem?_toArray, List.getElem?_cons_zero, List.getElem?_cons_succ]; rfl)
              case hq15 => exact fun _ _ _ h => h
              case hy15 => first | (refine ry_notS ?_; rfl) | (refine ry_runS (by rfl) (fun w' hw' => ?_); go_simp; try rfl)
              simp only [Act.put, List.setIfInBounds_toArray, List.set_cons_zero, List.set_cons_succ]
              refine take0T (v := ?v16) (oi := ?o16) 15 ?hi16 (by kernel_rfl) (by kernel_rfl) (by kernel_rfl) ?hq16 ?hy16 ?_
              case hi16 => (simp only [List.getElem?_toArray, List.getElem?_cons_zero, List.getElem?_cons_succ]; rfl)
              case hq16 => exact fun _ _ _ h => h
              case hy16 => first | (refine ry_notS ?_; rfl) | (refine ry_runS (by rfl) (fun w' hw' => ?_); go_simp; try rfl)
              simp only [Act.put, List.setIfInBounds_toArray, List.set_cons_zero, List.set_cons_succ]
              refine step0T (o := ?o17) 16 (by kernel_rfl) ?hi17 ?hw17 ?_
              case hi17 => (simp only [List.getElem?_toArray, List.getElem?_cons_zero, List.getElem?_cons_succ]; rfl)
              case hw17 => rfl
              go_simp
              refine (HBD.out _ (HK.out _ (HM3.out.drew))).mono ?_
              rintro e w6 ⟨v6, rfl, ho6, hm6⟩
              refine ⟨.inl hm6, ?_⟩
              have hm6' := Mod.of_drew_l hm6
              have hr6 := HR3.out.keep hm6' (fun h => h)
              have e0 := hr6.cell (o := 0) rfl
              have e1 := hr6.cell (o := 1) rfl
              have k0 := hr6.frozen 0
              have k1 := hr6.frozen 1
              refine take0T (v := ?v18) (oi := ?o18) 17 ?hi18 (by kernel_rfl) (by kernel_rfl) (by kernel_rfl) ?hq18 ?hy18 ?_
              case hi18 => (simp only [List.getElem?_toArray, List.getElem?_cons_zero, List.getElem?_cons_succ]; rfl)
              case hq18 => exact fun _ _ _ h => h
              case hy18 => first | (refine ry_notS ?_; rfl) | (refine ry_runS (by rfl) (fun w' hw' => ?_); go_simp; try rfl)
              simp only [Act.put, List.setIfInBounds_toArray, List.set_cons_zero, List.set_cons_succ]
              refine take0T (v := ?v19) (oi := ?o19) 18 ?hi19 (by kernel_rfl) (by kernel_rfl) (by kernel_rfl) ?hq19 ?hy19 ?_
              case hi19 => (simp only [List.getElem?_toArray, List.getElem?_cons_zero, List.getElem?_cons_succ]; rfl)
              case hq19 => exact fun _ _ _ h => h
              case hy19 => first | (refine ry_notS ?_; rfl) | (refine ry_runS (by rfl) (fun w' hw' => ?_); go_simp; try rfl)
              simp only [Act.put, List.setIfInBounds_toArray, List.set_cons_zero, List.set_cons_succ]
              refine take0T (v := ?v20) (oi := ?o20) 19 ?hi20 (by kernel_rfl) (by kernel_rfl) (by kernel_rfl) ?hq20 ?hy20 ?_
              case hi20 => (simp only [List.getElem?_toArray, List.getElem?_cons_zero, List.getElem?_cons_succ]; rfl)
              case hq20 => exact fun _ _ _ h => h
              case hy20 => first | (refine ry_notS ?_; rfl) | (refine ry_runS (by rfl) (fun w' hw' => ?_); go_simp; try rfl)
              simp only [Act.put, List.setIfInBounds_toArray, List.set_cons_zero, List.set_cons_succ]
              refine step0T (o := ?o21) 20 (by kernel_rfl) ?hi21 ?hw21 ?_
              case hi21 => (simp only [List.getElem?_toArray, List.getElem?_cons_zero, List.getElem?_cons_succ]; rfl)
              case hw21 => rfl
              go_simp
              refine ⟨.inr (by kernel_rfl), ?_⟩
              refine take0T (v := ?v22) (oi := ?o22) 21 ?hi22 (by kernel_rfl) (by kernel_rfl) (by kernel_rfl) ?hq22 ?hy22 ?_
              case hi22 => (simp only [List.getElem?_toArray, List.getElem?_cons_zero, List.getElem?_cons_succ]; rfl)
              case hq22 => exact fun _ _ _ h => h
              case hy22 => first | (refine ry_notS ?_; rfl) | (refine ry_runS (by rfl) (fun w' hw' => ?_); go_simp; try rfl)
              simp only [Act.put, List.setIfInBounds_toArray, List.set_cons_zero, List.set_cons_succ]
              refine take0T (v := ?v23) (oi := ?o23) 22 ?hi23 (by kernel_rfl) (by kernel_rfl) (by kernel_rfl) ?hq23 ?hy23 ?_
              case hi23 => (simp only [List.getElem?_toArray, List.getElem?_cons_zero, List.getElem?_cons_succ]; rfl)
              case hq23 => exact fun _ _ _ h => h
              case hy23 => first | (refine ry_notS ?_; rfl) | (refine ry_runS (by rfl) (fun w' hw' => ?_); go_simp; try rfl)
              simp only [Act.put, List.setIfInBounds_toArray, List.set_cons_zero, List.set_cons_succ]
              refine wpAnyT_done (by kernel_rfl) ?_
              have z0 := ((hr6.set 0 (.string r.1.id)).set 1 (.int .i64 r.1.size)).cell (o := 0) rfl
              have z1 := ((hr6.set 0 (.string r.1.id)).set 1 (.int .i64 r.1.size)).cell (o := 1) rfl
              have z2 := (hr6.set 0 (.string r.1.id)).cell (o := 0) rfl
              have hmS : Mod (fun k => k = w.heap.size + 1) w6 ((w6.setCell ⟨w.heap.size + 1, 0, none⟩ (.string r.1.id)).setCell ⟨w.heap.size + 1, 1, none⟩ (.int .i64 r.1.size)) := ((Mod.refl (fun k => k = w.heap.size + 1) w6).set1 rfl _ _).set1 rfl _ _
              have hM6 := (Mod.trans HM3.out hm6' (fun _ _ h => h.elim)).setCell2 hmS
              have hown6 := own_base (own_keep ho6 hmS (fun k hk _ h => by have := HM3.out.size; have := HR3.out.lt; simp at hk; omega)) (show w.heap.size ≤ w3.drew.heap.size from HM3.out.size)
              have HM6 := Lib.hid hM6
              have HO6 := Lib.hid hown6
              clear hmS hM6 hown6 hm6 hm6' ho6 hr6 e0 e1 k0 k1 fv0
              go_wp2_with fail
              refine bodyPost_ret (v := .tuple #[.agg #[.string r.1.id, .int .i64 r.1.size], v6, .int .i64 r.2.2]) (by simp [results, Tryd.results16, go_sem, z0, z1, z2]) rfl ?_
              unfold SplPost
              exact ⟨_, rfl, HO6.out, HM6.out⟩
          · have b1 : (BD != 0) = true := by simpa using hb0
            rw [if_pos hb0] at hr
            clear hb0
            subst hr
            obtain ⟨E1, z0, z1⟩ := splice_end HR3.out
            have HE1 := Lib.hid (HM3.out.setCell2 E1)
            clear E1
            go_wp2_with fail
            refine bodyPost_ret (v := .tuple #[.agg #[.string ⟨#[]⟩, .int .i64 0], .slice none 0 0, .int .i64 BD]) (by simp [results, Tryd.results16, go_sem, z0, z1]) rfl ?_
            unfold SplPost
            exact ⟨_, rfl, World.ownsRow_nil _ _ _ _, HE1.out⟩
        · have h4' : root.size < from_ := by omega
          rw [if_neg (fun h => h4 h.2.2.2)] at hr
          subst hr
          clear h1
          obtain ⟨E1, z0, z1⟩ := splice_end HR2.out
          have HE1 := Lib.hid (HM0.out.setCell2 E1)
          clear E1
          go_wp2_with fail
          refine bodyPost_ret (v := .tuple #[.agg #[.string ⟨#[]⟩, .int .i64 0], .slice none 0 0, .int .i64 2]) (by simp [results, Tryd.results16, go_sem, z0, z1]) rfl ?_
          unfold SplPost
          exact ⟨_, rfl, World.ownsRow_nil _ _ _ _, HE1.out⟩
      · have h3' : n < 0 := by omega
        rw [if_neg (fun h => h3 h.2.2.1)] at hr
        subst hr
        clear h1
        obtain ⟨E1, z0, z1⟩ := splice_end HR2.out
        have HE1 := Lib.hid (HM0.out.setCell2 E1)
        clear E1
        go_wp2_with fail
        refine bodyPost_ret (v := .tuple #[.agg #[.string ⟨#[]⟩, .int .i64 0], .slice none 0 0, .int .i64 2]) (by simp [results, Tryd.results16, go_sem, z0, z1]) rfl ?_
        unfold SplPost
        exact ⟨_, rfl, World.ownsRow_nil _ _ _ _, HE1.out⟩
    · have h2' : from_ < 0 := by omega
      rw [if_neg (fun h => h2 h.2.1)] at hr
      subst hr
      clear h1
      obtain ⟨E1, z0, z1⟩ := splice_end HR2.out
      have HE1 := Lib.hid (HM0.out.setCell2 E1)
      clear E1
      go_wp2_with fail
      refine bodyPost_ret (v := .tuple #[.agg #[.string ⟨#[]⟩, .int .i64 0], .slice none 0 0, .int .i64 2]) (by simp [results, Tryd.results16, go_sem, z0, z1]) rfl ?_
      unfold SplPost
      exact ⟨_, rfl, World.ownsRow_nil _ _ _ _, HE1.out⟩
  · rw [if_neg (fun h => h1 h.1)] at hr
    subst hr
    have h2 : rightP root = false := by simpa using h1
    rw [h2]
    clear h1
    obtain ⟨E1, z0, z1⟩ := splice_end HR2.out
    have HE1 := Lib.hid (HM0.out.setCell2 E1)
    clear E1
    go_wp2_with fail
    refine bodyPost_ret (v := .tuple #[.agg #[.string ⟨#[]⟩, .int .i64 0], .slice none 0 0, .int .i64 2]) (by simp [results, Tryd.results16, go_sem, z0, z1]) rfl ?_
    unfold SplPost
    exact ⟨_, rfl, World.ownsRow_nil _ _ _ _, HE1.out⟩
set_option maxRecDepth 100000 in
set_option maxHeartbeats 8000000 in
theorem rSplice_calls (A : Option Addr) (c : Nat) {objs : List Ob} (hob : ObsOk objs) (root : Part) (from_ n : Int) (data : ByteArray) (w : World) (hA : Cells w A (objs.flatMap oc)) (hlow : objs.flatMap oc ≠ [] → ∀ ad, A = some ad → ad.block < w.heap.size) (hf : In64 from_) (hn : In64 n) (hd : data.size ≤ 300000) :
    Calls Tryd.prog 18 #[.slice A objs.length c, .agg #[.string root.id, .int .i64 root.size], .int .i64 from_, .int .i64 n, .string data] w (RSplPost (spliceL objs root from_ n data.data.toList) w) := by
  have hm1 := ((Mod.refl (fun _ => False) w).alloc (.cells #[.string root.id, .int .i64 root.size] 25)).alloc (.cells #[.string ⟨#[]⟩, .int .i64 0] 25)
  have hb1 : Has ((w.alloc (.cells #[.string root.id, .int .i64 root.size] 25)).alloc (.cells #[.string ⟨#[]⟩, .int .i64 0] 25)) w.heap.size [.string root.id, .int .i64 root.size] 25 := (Has.new w _ _).alloc _
  have hr1 : Has ((w.alloc (.cells #[.string root.id, .int .i64 root.size] 25)).alloc (.cells #[.string ⟨#[]⟩, .int .i64 0] 25)) (w.heap.size + 1) [.string ⟨#[]⟩, .int .i64 0] 25 := Has.lit (by simp)
  have x0 := hb1.cell (o := 0) rfl
  have x1 := hb1.cell (o := 1) rfl
  obtain ⟨r, hr⟩ : ∃ r, spliceL objs root from_ n data.data.toList = r := ⟨_, rfl⟩
  rw [hr]
  unfold spliceL at hr
  unfold In64 at hf hn
  have hdl : data.data.toList.length = data.size := by simp
  rw [hdl] at hr
  go_enter Tryd.func18, Tryd.ntmps18
  go_wp2_with fail
  refine (rRight_calls root _).mono ?_
  rintro e w2 ⟨rfl, hm2⟩
  have hb2 := hb1.keep hm2 (fun h => h)
  have hr2 := hr1.keep hm2 (fun h => h)
  have hm := Mod.trans hm1 hm2 (fun _ _ h => h)
  have y0 := hb2.cell (o := 0) rfl
  have y1 := hb2.cell (o := 1) rfl
  have c0 := hr2.cell (o := 0) rfl
  have c1 := hr2.cell (o := 1) rfl
  have f0 := hr2.frozen 0
  have f1 := hr2.frozen 1
  have HMF := Lib.hid hm
  have HR2 := Lib.hid hr2
  have HB2 := Lib.hid hb2
  have HA2 := Lib.hid (hA.keep hm (fun _ _ h => h))
  have hwz : w.heap.size + 2 ≤ w2.heap.size := by have := hr2.lt; omega
  have HLO := Lib.hid (fun h ad ha => Nat.lt_of_lt_of_le (hlow h ad ha) (show w.heap.size ≤ w2.heap.size by omega))
  clear hb2 hr2 hm hm2 hm1 hb1 hr1 x0 x1 hA hlow hdl
  by_cases h1 : rightP root = true
  · have hrp := rightP_spec h1
    have HRT := Lib.hid h1
    rw [h1]
    by_cases h2 : 0 ≤ from_
    · have h2' : ¬ from_ < 0 := by omega
      by_cases h3 : 0 ≤ n
      · have h3' : ¬ n < 0 := by omega
        by_cases h4 : from_ ≤ root.size
        · have h4' : ¬ root.size < from_ := by omega
          rw [if_pos ⟨h1, h2, h3, h4⟩] at hr
          have HPR := Lib.hid (rRead_calls A c hob root 0 root.size w2 HA2.out HLO.out (by unfold In64; omega) (by unfold In64; omega))
          have hfull := fun h => readL_full (objs := objs) h1 h
          unfold RReadPost at HPR
          clear h1
          generalize readL objs root 0 root.size = RD at *
          obtain ⟨DT, AS, BD⟩ := RD
          dsimp only at HPR hr hfull
          have HFULL := Lib.hid hfull
          have HR := Lib.hid hr
          clear hr hfull
          go_wp2_with fail
          refine HPR.out.mono ?_
          rintro e w3 ⟨va3, rfl, -, hm3⟩
          have hr3 := HR2.out.keep hm3 (fun h => h)
          have hb3 := HB2.out.keep hm3 (fun h => h)
          have hM3 : Mod (fun _ => False) w w3 := Mod.trans HMF.out hm3 (fun _ _ h => h)
          have u0 := hb3.cell (o := 0) rfl
          have u1 := hb3.cell (o := 1) rfl
          have d0 := hr3.cell (o := 0) rfl
          have d1 := hr3.cell (o := 1) rfl
          have g0 := hr3.frozen 0
          have g1 := hr3.frozen 1
          have HM3 := Lib.hid hM3
          have HR3 := Lib.hid hr3
          have HB3 := Lib.hid hb3
          obtain ⟨S, hS⟩ : ∃ S : ByteArray, (⟨DT.toArray⟩ : ByteArray) = S := ⟨_, rfl⟩
          rw [hS]
          have HSD : Hid (S.data.toList = DT) := Lib.hid (by rw [← hS])
          clear hr3 hb3 hM3 hm3 y0 y1 c0 c1 f0 f1 hS HPR
          have hr := HR.out
          by_cases hb0 : BD = 0
          · have b1 : (BD != 0) = false := by simpa using hb0
            rw [if_neg (fun h => h hb0)] at hr
            have HE0 := Lib.hid hb0
            clear hb0
            have hw5 : IntKind.i64.wrap (root.size - from_) = root.size - from_ := by rw [IntKind.wrap_i64]; omega
            by_cases h6 : n < root.size - from_
            · have hw6 : IntKind.i64.wrap (from_ + n) = from_ + n := by rw [IntKind.wrap_i64]; omega
              by_cases h5 : 262144 < data.size
              · rw [if_pos h5] at hr
                have h5' : (262144 : Int) < (data.size : Int) := by omega
                subst hr
                obtain ⟨E1, z0, z1⟩ := splice_end HR3.out
                have HE1 := Lib.hid (HM3.out.setCell2 E1)
                clear E1
                go_wp2_with fail
                refine bodyPost_ret (v := .tuple #[.agg #[.string ⟨#[]⟩, .int .i64 0], .slice none 0 0, .int .i64 100]) (by simp [results, Tryd.results18, go_sem, z0, z1]) rfl ?_
                unfold RSplPost
                exact ⟨_, rfl, World.ownsRow_nil _ _ _ _, HE1.out⟩
              · rw [if_neg h5] at hr
                have h5' : ¬ (262144 : Int) < (data.size : Int) := by omega
                have hSz : (S.size : Int) = root.size := by have g1 := HFULL.out HE0.out; have g2 := size_of_list HSD.out; omega
                have hw0 : IntKind.i64.wrap (root.size - from_) = root.size - from_ := by rw [IntKind.wrap_i64]; omega
                have hsl1 := run_upto S from_ (by omega) (by omega)
                have hsl2 := run_from S (from_ + n) (by omega) (by omega)
                obtain ⟨P1, hP1⟩ : ∃ P1 : ByteArray, (⟨(S.data.toList.take from_.toNat).toArray⟩ : ByteArray) = P1 := ⟨_, rfl⟩
                obtain ⟨P3, hP3⟩ : ∃ P3 : ByteArray, (⟨(S.data.toList.drop (from_ + n).toNat).toArray⟩ : ByteArray) = P3 := ⟨_, rfl⟩
                rw [hP1] at hsl1
                rw [hP3] at hsl2
                have hSl : S.data.toList.length = S.size := by simp
                have hs1 : P1.size ≤ 262144 := by rw [← hP1]; simp only [ByteArray.size, List.size_toArray, List.length_take]; omega
                have hs3 : P3.size ≤ 262144 := by rw [← hP3]; simp only [ByteArray.size, List.size_toArray, List.length_drop]; omega
                have hadd1 := fun w' => run_string_add_sum (P := Tryd.prog) w' P1 data (by omega)
                have hz2 : (P1 ++ data).size = P1.size + data.size := ByteArray.size_append
                obtain ⟨P2, hP2⟩ : ∃ P2, P1 ++ data = P2 := ⟨_, rfl⟩
                rw [hP2] at hadd1 hz2
                have hadd2 := fun w' => run_string_add_sum (P := Tryd.prog) w' P2 P3 (by omega)
                have hz4 : (P2 ++ P3).size = P2.size + P3.size := ByteArray.size_append
                obtain ⟨P4, hP4⟩ : ∃ P4, P2 ++ P3 = P4 := ⟨_, rfl⟩
                rw [hP4] at hadd2 hz4
                have hP : P4.data.toList = DT.take from_.toNat ++ data.data.toList ++ DT.drop (from_ + min n (root.size - from_)).toNat := by
                  rw [← hP4, ← hP2, ← hP1, ← hP3, ← HSD.out]
                  have hE : (from_ + n).toNat = (from_ + min n (root.size - from_)).toNat := by congr 1 <;> omega
                  rw [hE]
                  simp [ByteArray.data_append]
                have hbd := fun w' => rBuild_calls P4 w' (by omega)
                unfold BuildPost at hbd
                rw [hP, hr] at hbd
                have HBD := Lib.hid hbd
                clear hP1 hP2 hP3 hP4 hP hr hbd hSl
                go_wp2_with fail
                refine region_mT (fun _ => False) (by kernel_rfl) ?_
                simp only [List.length_cons, List.length_nil, List.replicate]
                refine take0T (v := ?v24) (oi := ?o24) 0 ?hi24 (by kernel_rfl) (by kernel_rfl) (by kernel_rfl) ?hq24 ?hy24 ?_
                case hi24 => (simp only [List.getElem?_toArray, List.getElem?_cons_zero, List.getElem?_cons_succ]; rfl)
                case hq24 => exact fun _ _ _ h => h
                case hy24 => first | (refine ry_notS ?_; rfl) | (refine ry_runS (by rfl) (fun w' hw' => ?_); go_simp; try rfl)
                simp only [Act.put, List.setIfInBounds_toArray, List.set_cons_zero, List.set_cons_succ]
                refine take0T (v := ?v25) (oi := ?o25) 1 ?hi25 (by kernel_rfl) (by kernel_rfl) (by kernel_rfl) ?hq25 ?hy25 ?_
                case hi25 => (simp only [List.getElem?_toArray, List.getElem?_cons_zero, List.getElem?_cons_succ]; rfl)
                case hq25 => exact fun _ _ _ h => h
                case hy25 => first | (refine ry_notS ?_; rfl) | (refine ry_runS (by rfl) (fun w' hw' => ?_); go_simp; try rfl)
                simp only [Act.put, List.setIfInBounds_toArray, List.set_cons_zero, List.set_cons_succ]
                refine take0T (v := ?v26) (oi := ?o26) 2 ?hi26 (by kernel_rfl) (by kernel_rfl) (by kernel_rfl) ?hq26 ?hy26 ?_
                case hi26 => (simp only [List.getElem?_toArray, List.getElem?_cons_zero, List.getElem?_cons_succ]; rfl)
                case hq26 => exact fun _ _ _ h => h
                case hy26 => first | (refine ry_notS ?_; rfl) | (refine ry_runS (by rfl) (fun w' hw' => ?_); go_simp; try rfl)
                simp only [Act.put, List.setIfInBounds_toArray, List.set_cons_zero, List.set_cons_succ]
                refine take0T (v := ?v27) (oi := ?o27) 3 ?hi27 (by kernel_rfl) (by kernel_rfl) (by kernel_rfl) ?hq27 ?hy27 ?_
                case hi27 => (simp only [List.getElem?_toArray, List.getElem?_cons_zero, List.getElem?_cons_succ]; rfl)
                case hq27 => exact fun _ _ _ h => h
                case hy27 => first | (refine ry_notS ?_; rfl) | (refine ry_runS (by rfl) (fun w' hw' => ?_); go_simp; try rfl)
                simp only [Act.put, List.setIfInBounds_toArray, List.set_cons_zero, List.set_cons_succ]
                refine take0T (v := ?v28) (oi := ?o28) 4 ?hi28 (by kernel_rfl) (by kernel_rfl) (by kernel_rfl) ?hq28 ?hy28 ?_
                case hi28 => (simp only [List.getElem?_toArray, List.getElem?_cons_zero, List.getElem?_cons_succ]; rfl)
                case hq28 => exact fun _ _ _ h => h
                case hy28 => first | (refine ry_notS ?_; rfl) | (refine ry_runS (by rfl) (fun w' hw' => ?_); go_simp; try rfl)
                simp only [Act.put, List.setIfInBounds_toArray, List.set_cons_zero, List.set_cons_succ]
                refine take0T (v := ?v29) (oi := ?o29) 5 ?hi29 (by kernel_rfl) (by kernel_rfl) (by kernel_rfl) ?hq29 ?hy29 ?_
                case hi29 => (simp only [List.getElem?_toArray, List.getElem?_cons_zero, List.getElem?_cons_succ]; rfl)
                case hq29 => exact fun _ _ _ h => h
                case hy29 => first | (refine ry_notS ?_; rfl) | (refine ry_runS (by rfl) (fun w' hw' => ?_); go_simp; try rfl)
                simp only [Act.put, List.setIfInBounds_toArray, List.set_cons_zero, List.set_cons_succ]
                refine take0T (v := ?v30) (oi := ?o30) 6 ?hi30 (by kernel_rfl) (by kernel_rfl) (by kernel_rfl) ?hq30 ?hy30 ?_
                case hi30 => (simp only [List.getElem?_toArray, List.getElem?_cons_zero, List.getElem?_cons_succ]; rfl)
                case hq30 => exact fun _ _ _ h => h
                case hy30 => first | (refine ry_notS ?_; rfl) | (refine ry_runS (by rfl) (fun w' hw' => ?_); go_simp; try rfl)
                simp only [Act.put, List.setIfInBounds_toArray, List.set_cons_zero, List.set_cons_succ]
                refine take0T (v := ?v31) (oi := ?o31) 7 ?hi31 (by kernel_rfl) (by kernel_rfl) (by kernel_rfl) ?hq31 ?hy31 ?_
                case hi31 => (simp only [List.getElem?_toArray, List.getElem?_cons_zero, List.getElem?_cons_succ]; rfl)
                case hq31 => exact fun _ _ _ h => h
                case hy31 => first | (refine ry_notS ?_; rfl) | (refine ry_runS (by rfl) (fun w' hw' => ?_); go_simp; try rfl)
                simp only [Act.put, List.setIfInBounds_toArray, List.set_cons_zero, List.set_cons_succ]
                refine take0T (v := ?v32) (oi := ?o32) 8 ?hi32 (by kernel_rfl) (by kernel_rfl) (by kernel_rfl) ?hq32 ?hy32 ?_
                case hi32 => (simp only [List.getElem?_toArray, List.getElem?_cons_zero, List.getElem?_cons_succ]; rfl)
                case hq32 => exact fun _ _ _ h => h
                case hy32 => first | (refine ry_notS ?_; rfl) | (refine ry_runS (by rfl) (fun w' hw' => ?_); go_simp; try rfl)
                simp only [Act.put, List.setIfInBounds_toArray, List.set_cons_zero, List.set_cons_succ]
                refine step0T (o := ?o33) 9 (by kernel_rfl) ?hi33 ?hw33 ?_
                case hi33 => (simp only [List.getElem?_toArray, List.getElem?_cons_zero, List.getElem?_cons_succ]; rfl)
                case hw33 => rfl
                go_simp
                refine (HBD.out _).mono ?_
                rintro e w6 ⟨v6, rfl, ho6, hm6⟩
                refine ⟨.inl hm6, ?_⟩
                have hm6' := Mod.of_drew_l hm6
                have hr6 := HR3.out.keep hm6' (fun h => h)
                have e0 := hr6.cell (o := 0) rfl
                have e1 := hr6.cell (o := 1) rfl
                have k0 := hr6.frozen 0
                have k1 := hr6.frozen 1
                refine take0T (v := ?v34) (oi := ?o34) 10 ?hi34 (by kernel_rfl) (by kernel_rfl) (by kernel_rfl) ?hq34 ?hy34 ?_
                case hi34 => (simp only [List.getElem?_toArray, List.getElem?_cons_zero, List.getElem?_cons_succ]; rfl)
                case hq34 => exact fun _ _ _ h => h
                case hy34 => first | (refine ry_notS ?_; rfl) | (refine ry_runS (by rfl) (fun w' hw' => ?_); go_simp; try rfl)
                simp only [Act.put, List.setIfInBounds_toArray, List.set_cons_zero, List.set_cons_succ]
                refine take0T (v := ?v35) (oi := ?o35) 11 ?hi35 (by kernel_rfl) (by kernel_rfl) (by kernel_rfl) ?hq35 ?hy35 ?_
                case hi35 => (simp only [List.getElem?_toArray, List.getElem?_cons_zero, List.getElem?_cons_succ]; rfl)
                case hq35 => exact fun _ _ _ h => h
                case hy35 => first | (refine ry_notS ?_; rfl) | (refine ry_runS (by rfl) (fun w' hw' => ?_); go_simp; try rfl)
                simp only [Act.put, List.setIfInBounds_toArray, List.set_cons_zero, List.set_cons_succ]
                refine take0T (v := ?v36) (oi := ?o36) 12 ?hi36 (by kernel_rfl) (by kernel_rfl) (by kernel_rfl) ?hq36 ?hy36 ?_
                case hi36 => (simp only [List.getElem?_toArray, List.getElem?_cons_zero, List.getElem?_cons_succ]; rfl)
                case hq36 => exact fun _ _ _ h => h
                case hy36 => first | (refine ry_notS ?_; rfl) | (refine ry_runS (by rfl) (fun w' hw' => ?_); go_simp; try rfl)
                simp only [Act.put, List.setIfInBounds_toArray, List.set_cons_zero, List.set_cons_succ]
                refine step0T (o := ?o37) 13 (by kernel_rfl) ?hi37 ?hw37 ?_
                case hi37 => (simp only [List.getElem?_toArray, List.getElem?_cons_zero, List.getElem?_cons_succ]; rfl)
                case hw37 => rfl
                go_simp
                refine ⟨.inr (by kernel_rfl), ?_⟩
                refine take0T (v := ?v38) (oi := ?o38) 14 ?hi38 (by kernel_rfl) (by kernel_rfl) (by kernel_rfl) ?hq38 ?hy38 ?_
                case hi38 => (simp only [List.getElem?_toArray, List.getElem?_cons_zero, List.getElem?_cons_succ]; rfl)
                case hq38 => exact fun _ _ _ h => h
                case hy38 => first | (refine ry_notS ?_; rfl) | (refine ry_runS (by rfl) (fun w' hw' => ?_); go_simp; try rfl)
                simp only [Act.put, List.setIfInBounds_toArray, List.set_cons_zero, List.set_cons_succ]
                refine take0T (v := ?v39) (oi := ?o39) 15 ?hi39 (by kernel_rfl) (by kernel_rfl) (by kernel_rfl) ?hq39 ?hy39 ?_
                case hi39 => (simp only [List.getElem?_toArray, List.getElem?_cons_zero, List.getElem?_cons_succ]; rfl)
                case hq39 => exact fun _ _ _ h => h
                case hy39 => first | (refine ry_notS ?_; rfl) | (refine ry_runS (by rfl) (fun w' hw' => ?_); go_simp; try rfl)
                simp only [Act.put, List.setIfInBounds_toArray, List.set_cons_zero, List.set_cons_succ]
                refine wpAnyT_done (by kernel_rfl) ?_
                have z0 := ((hr6.set 0 (.string r.1.id)).set 1 (.int .i64 r.1.size)).cell (o := 0) rfl
                have z1 := ((hr6.set 0 (.string r.1.id)).set 1 (.int .i64 r.1.size)).cell (o := 1) rfl
                have z2 := (hr6.set 0 (.string r.1.id)).cell (o := 0) rfl
                have hmS : Mod (fun k => k = w.heap.size + 1) w6 ((w6.setCell ⟨w.heap.size + 1, 0, none⟩ (.string r.1.id)).setCell ⟨w.heap.size + 1, 1, none⟩ (.int .i64 r.1.size)) := ((Mod.refl (fun k => k = w.heap.size + 1) w6).set1 rfl _ _).set1 rfl _ _
                have hM6 := (Mod.trans HM3.out hm6' (fun _ _ h => h.elim)).setCell2 hmS
                have hown6 := own_base (own_keep ho6 hmS (fun k hk _ h => by have := HM3.out.size; have := HR3.out.lt; simp at hk; omega)) (show w.heap.size ≤ w3.drew.heap.size from HM3.out.size)
                have HM6 := Lib.hid hM6
                have HO6 := Lib.hid hown6
                clear hmS hM6 hown6 hm6 hm6' ho6 hr6 e0 e1 k0 k1
                go_wp2_with fail
                refine bodyPost_ret (v := .tuple #[.agg #[.string r.1.id, .int .i64 r.1.size], v6, .int .i64 r.2.2]) (by simp [results, Tryd.results18, go_sem, z0, z1, z2]) rfl ?_
                unfold RSplPost
                exact ⟨_, rfl, HO6.out, HM6.out⟩
            · by_cases h5 : 262144 < data.size
              · rw [if_pos h5] at hr
                have h5' : (262144 : Int) < (data.size : Int) := by omega
                subst hr
                obtain ⟨E1, z0, z1⟩ := splice_end HR3.out
                have HE1 := Lib.hid (HM3.out.setCell2 E1)
                clear E1
                go_wp2_with fail
                refine bodyPost_ret (v := .tuple #[.agg #[.string ⟨#[]⟩, .int .i64 0], .slice none 0 0, .int .i64 100]) (by simp [results, Tryd.results18, go_sem, z0, z1]) rfl ?_
                unfold RSplPost
                exact ⟨_, rfl, World.ownsRow_nil _ _ _ _, HE1.out⟩
              · rw [if_neg h5] at hr
                have h5' : ¬ (262144 : Int) < (data.size : Int) := by omega
                have hSz : (S.size : Int) = root.size := by have g1 := HFULL.out HE0.out; have g2 := size_of_list HSD.out; omega
                have hw0 : IntKind.i64.wrap (root.size - from_) = root.size - from_ := by rw [IntKind.wrap_i64]; omega
                have hsl1 := run_upto S from_ (by omega) (by omega)
                have hsl2 := run_from S (root.size) (by omega) (by omega)
                obtain ⟨P1, hP1⟩ : ∃ P1 : ByteArray, (⟨(S.data.toList.take from_.toNat).toArray⟩ : ByteArray) = P1 := ⟨_, rfl⟩
                obtain ⟨P3, hP3⟩ : ∃ P3 : ByteArray, (⟨(S.data.toList.drop (root.size).toNat).toArray⟩ : ByteArray) = P3 := ⟨_, rfl⟩
                rw [hP1] at hsl1
                rw [hP3] at hsl2
                have hSl : S.data.toList.length = S.size := by simp
                have hs1 : P1.size ≤ 262144 := by rw [← hP1]; simp only [ByteArray.size, List.size_toArray, List.length_take]; omega
                have hs3 : P3.size ≤ 262144 := by rw [← hP3]; simp only [ByteArray.size, List.size_toArray, List.length_drop]; omega
                have hadd1 := fun w' => run_string_add_sum (P := Tryd.prog) w' P1 data (by omega)
                have hz2 : (P1 ++ data).size = P1.size + data.size := ByteArray.size_append
                obtain ⟨P2, hP2⟩ : ∃ P2, P1 ++ data = P2 := ⟨_, rfl⟩
                rw [hP2] at hadd1 hz2
                have hadd2 := fun w' => run_string_add_sum (P := Tryd.prog) w' P2 P3 (by omega)
                have hz4 : (P2 ++ P3).size = P2.size + P3.size := ByteArray.size_append
                obtain ⟨P4, hP4⟩ : ∃ P4, P2 ++ P3 = P4 := ⟨_, rfl⟩
                rw [hP4] at hadd2 hz4
                have hP : P4.data.toList = DT.take from_.toNat ++ data.data.toList ++ DT.drop (from_ + min n (root.size - from_)).toNat := by
                  rw [← hP4, ← hP2, ← hP1, ← hP3, ← HSD.out]
                  have hE : (root.size).toNat = (from_ + min n (root.size - from_)).toNat := by congr 1 <;> omega
                  rw [hE]
                  simp [ByteArray.data_append]
                have hbd := fun w' => rBuild_calls P4 w' (by omega)
                unfold BuildPost at hbd
                rw [hP, hr] at hbd
                have HBD := Lib.hid hbd
                clear hP1 hP2 hP3 hP4 hP hr hbd hSl
                go_wp2_with fail
                refine region_mT (fun _ => False) (by kernel_rfl) ?_
                simp only [List.length_cons, List.length_nil, List.replicate]
                refine take0T (v := ?v40) (oi := ?o40) 0 ?hi40 (by kernel_rfl) (by kernel_rfl) (by kernel_rfl) ?hq40 ?hy40 ?_
                case hi40 => (simp only [List.getElem?_toArray, List.getElem?_cons_zero, List.getElem?_cons_succ]; rfl)
                case hq40 => exact fun _ _ _ h => h
                case hy40 => first | (refine ry_notS ?_; rfl) | (refine ry_runS (by rfl) (fun w' hw' => ?_); go_simp; try rfl)
                simp only [Act.put, List.setIfInBounds_toArray, List.set_cons_zero, List.set_cons_succ]
                refine take0T (v := ?v41) (oi := ?o41) 1 ?hi41 (by kernel_rfl) (by kernel_rfl) (by kernel_rfl) ?hq41 ?hy41 ?_
                case hi41 => (simp only [List.getElem?_toArray, List.getElem?_cons_zero, List.getElem?_cons_succ]; rfl)
                case hq41 => exact fun _ _ _ h => h
                case hy41 => first | (refine ry_notS ?_; rfl) | (refine ry_runS (by rfl) (fun w' hw' => ?_); go_simp; try rfl)
                simp only [Act.put, List.setIfInBounds_toArray, List.set_cons_zero, List.set_cons_succ]
                refine take0T (v := ?v42) (oi := ?o42) 2 ?hi42 (by kernel_rfl) (by kernel_rfl) (by kernel_rfl) ?hq42 ?hy42 ?_
                case hi42 => (simp only [List.getElem?_toArray, List.getElem?_cons_zero, List.getElem?_cons_succ]; rfl)
                case hq42 => exact fun _ _ _ h => h
                case hy42 => first | (refine ry_notS ?_; rfl) | (refine ry_runS (by rfl) (fun w' hw' => ?_); go_simp; try rfl)
                simp only [Act.put, List.setIfInBounds_toArray, List.set_cons_zero, List.set_cons_succ]
                refine take0T (v := ?v43) (oi := ?o43) 3 ?hi43 (by kernel_rfl) (by kernel_rfl) (by kernel_rfl) ?hq43 ?hy43 ?_
                case hi43 => (simp only [List.getElem?_toArray, List.getElem?_cons_zero, List.getElem?_cons_succ]; rfl)
                case hq43 => exact fun _ _ _ h => h
                case hy43 => first | (refine ry_notS ?_; rfl) | (refine ry_runS (by rfl) (fun w' hw' => ?_); go_simp; try rfl)
                simp only [Act.put, List.setIfInBounds_toArray, List.set_cons_zero, List.set_cons_succ]
                refine take0T (v := ?v44) (oi := ?o44) 4 ?hi44 (by kernel_rfl) (by kernel_rfl) (by kernel_rfl) ?hq44 ?hy44 ?_
                case hi44 => (simp only [List.getElem?_toArray, List.getElem?_cons_zero, List.getElem?_cons_succ]; rfl)
                case hq44 => exact fun _ _ _ h => h
                case hy44 => first | (refine ry_notS ?_; rfl) | (refine ry_runS (by rfl) (fun w' hw' => ?_); go_simp; try rfl)
                simp only [Act.put, List.setIfInBounds_toArray, List.set_cons_zero, List.set_cons_succ]
                refine take0T (v := ?v45) (oi := ?o45) 5 ?hi45 (by kernel_rfl) (by kernel_rfl) (by kernel_rfl) ?hq45 ?hy45 ?_
                case hi45 => (simp only [List.getElem?_toArray, List.getElem?_cons_zero, List.getElem?_cons_succ]; rfl)
                case hq45 => exact fun _ _ _ h => h
                case hy45 => first | (refine ry_notS ?_; rfl) | (refine ry_runS (by rfl) (fun w' hw' => ?_); go_simp; try rfl)
                simp only [Act.put, List.setIfInBounds_toArray, List.set_cons_zero, List.set_cons_succ]
                refine take0T (v := ?v46) (oi := ?o46) 6 ?hi46 (by kernel_rfl) (by kernel_rfl) (by kernel_rfl) ?hq46 ?hy46 ?_
                case hi46 => (simp only [List.getElem?_toArray, List.getElem?_cons_zero, List.getElem?_cons_succ]; rfl)
                case hq46 => exact fun _ _ _ h => h
                case hy46 => first | (refine ry_notS ?_; rfl) | (refine ry_runS (by rfl) (fun w' hw' => ?_); go_simp; try rfl)
                simp only [Act.put, List.setIfInBounds_toArray, List.set_cons_zero, List.set_cons_succ]
                refine take0T (v := ?v47) (oi := ?o47) 7 ?hi47 (by kernel_rfl) (by kernel_rfl) (by kernel_rfl) ?hq47 ?hy47 ?_
                case hi47 => (simp only [List.getElem?_toArray, List.getElem?_cons_zero, List.getElem?_cons_succ]; rfl)
                case hq47 => exact fun _ _ _ h => h
                case hy47 => first | (refine ry_notS ?_; rfl) | (refine ry_runS (by rfl) (fun w' hw' => ?_); go_simp; try rfl)
                simp only [Act.put, List.setIfInBounds_toArray, List.set_cons_zero, List.set_cons_succ]
                refine take0T (v := ?v48) (oi := ?o48) 8 ?hi48 (by kernel_rfl) (by kernel_rfl) (by kernel_rfl) ?hq48 ?hy48 ?_
                case hi48 => (simp only [List.getElem?_toArray, List.getElem?_cons_zero, List.getElem?_cons_succ]; rfl)
                case hq48 => exact fun _ _ _ h => h
                case hy48 => first | (refine ry_notS ?_; rfl) | (refine ry_runS (by rfl) (fun w' hw' => ?_); go_simp; try rfl)
                simp only [Act.put, List.setIfInBounds_toArray, List.set_cons_zero, List.set_cons_succ]
                refine step0T (o := ?o49) 9 (by kernel_rfl) ?hi49 ?hw49 ?_
                case hi49 => (simp only [List.getElem?_toArray, List.getElem?_cons_zero, List.getElem?_cons_succ]; rfl)
                case hw49 => rfl
                go_simp
                refine (HBD.out _).mono ?_
                rintro e w6 ⟨v6, rfl, ho6, hm6⟩
                refine ⟨.inl hm6, ?_⟩
                have hm6' := Mod.of_drew_l hm6
                have hr6 := HR3.out.keep hm6' (fun h => h)
                have e0 := hr6.cell (o := 0) rfl
                have e1 := hr6.cell (o := 1) rfl
                have k0 := hr6.frozen 0
                have k1 := hr6.frozen 1
                refine take0T (v := ?v50) (oi := ?o50) 10 ?hi50 (by kernel_rfl) (by kernel_rfl) (by kernel_rfl) ?hq50 ?hy50 ?_
                case hi50 => (simp only [List.getElem?_toArray, List.getElem?_cons_zero, List.getElem?_cons_succ]; rfl)
                case hq50 => exact fun _ _ _ h => h
                case hy50 => first | (refine ry_notS ?_; rfl) | (refine ry_runS (by rfl) (fun w' hw' => ?_); go_simp; try rfl)
                simp only [Act.put, List.setIfInBounds_toArray, List.set_cons_zero, List.set_cons_succ]
                refine take0T (v := ?v51) (oi := ?o51) 11 ?hi51 (by kernel_rfl) (by kernel_rfl) (by kernel_rfl) ?hq51 ?hy51 ?_
                case hi51 => (simp only [List.getElem?_toArray, List.getElem?_cons_zero, List.getElem?_cons_succ]; rfl)
                case hq51 => exact fun _ _ _ h => h
                case hy51 => first | (refine ry_notS ?_; rfl) | (refine ry_runS (by rfl) (fun w' hw' => ?_); go_simp; try rfl)
                simp only [Act.put, List.setIfInBounds_toArray, List.set_cons_zero, List.set_cons_succ]
                refine take0T (v := ?v52) (oi := ?o52) 12 ?hi52 (by kernel_rfl) (by kernel_rfl) (by kernel_rfl) ?hq52 ?hy52 ?_
                case hi52 => (simp only [List.getElem?_toArray, List.getElem?_cons_zero, List.getElem?_cons_succ]; rfl)
                case hq52 => exact fun _ _ _ h => h
                case hy52 => first | (refine ry_notS ?_; rfl) | (refine ry_runS (by rfl) (fun w' hw' => ?_); go_simp; try rfl)
                simp only [Act.put, List.setIfInBounds_toArray, List.set_cons_zero, List.set_cons_succ]
                refine step0T (o := ?o53) 13 (by kernel_rfl) ?hi53 ?hw53 ?_
                case hi53 => (simp only [List.getElem?_toArray, List.getElem?_cons_zero, List.getElem?_cons_succ]; rfl)
                case hw53 => rfl
                go_simp
                refine ⟨.inr (by kernel_rfl), ?_⟩
                refine take0T (v := ?v54) (oi := ?o54) 14 ?hi54 (by kernel_rfl) (by kernel_rfl) (by kernel_rfl) ?hq54 ?hy54 ?_
                case hi54 => (simp only [List.getElem?_toArray, List.getElem?_cons_zero, List.getElem?_cons_succ]; rfl)
                case hq54 => exact fun _ _ _ h => h
                case hy54 => first | (refine ry_notS ?_; rfl) | (refine ry_runS (by rfl) (fun w' hw' => ?_); go_simp; try rfl)
                simp only [Act.put, List.setIfInBounds_toArray, List.set_cons_zero, List.set_cons_succ]
                refine take0T (v := ?v55) (oi := ?o55) 15 ?hi55 (by kernel_rfl) (by kernel_rfl) (by kernel_rfl) ?hq55 ?hy55 ?_
                case hi55 => (simp only [List.getElem?_toArray, List.getElem?_cons_zero, List.getElem?_cons_succ]; rfl)
                case hq55 => exact fun _ _ _ h => h
                case hy55 => first | (refine ry_notS ?_; rfl) | (refine ry_runS (by rfl) (fun w' hw' => ?_); go_simp; try rfl)
                simp only [Act.put, List.setIfInBounds_toArray, List.set_cons_zero, List.set_cons_succ]
                refine wpAnyT_done (by kernel_rfl) ?_
                have z0 := ((hr6.set 0 (.string r.1.id)).set 1 (.int .i64 r.1.size)).cell (o := 0) rfl
                have z1 := ((hr6.set 0 (.string r.1.id)).set 1 (.int .i64 r.1.size)).cell (o := 1) rfl
                have z2 := (hr6.set 0 (.string r.1.id)).cell (o := 0) rfl
                have hmS : Mod (fun k => k = w.heap.size + 1) w6 ((w6.setCell ⟨w.heap.size + 1, 0, none⟩ (.string r.1.id)).setCell ⟨w.heap.size + 1, 1, none⟩ (.int .i64 r.1.size)) := ((Mod.refl (fun k => k = w.heap.size + 1) w6).set1 rfl _ _).set1 rfl _ _
                have hM6 := (Mod.trans HM3.out hm6' (fun _ _ h => h.elim)).setCell2 hmS
                have hown6 := own_base (own_keep ho6 hmS (fun k hk _ h => by have := HM3.out.size; have := HR3.out.lt; simp at hk; omega)) (show w.heap.size ≤ w3.drew.heap.size from HM3.out.size)
                have HM6 := Lib.hid hM6
                have HO6 := Lib.hid hown6
                clear hmS hM6 hown6 hm6 hm6' ho6 hr6 e0 e1 k0 k1
                go_wp2_with fail
                refine bodyPost_ret (v := .tuple #[.agg #[.string r.1.id, .int .i64 r.1.size], v6, .int .i64 r.2.2]) (by simp [results, Tryd.results18, go_sem, z0, z1, z2]) rfl ?_
                unfold RSplPost
                exact ⟨_, rfl, HO6.out, HM6.out⟩
          · have b1 : (BD != 0) = true := by simpa using hb0
            rw [if_pos hb0] at hr
            clear hb0
            subst hr
            obtain ⟨E1, z0, z1⟩ := splice_end HR3.out
            have HE1 := Lib.hid (HM3.out.setCell2 E1)
            clear E1
            go_wp2_with fail
            refine bodyPost_ret (v := .tuple #[.agg #[.string ⟨#[]⟩, .int .i64 0], .slice none 0 0, .int .i64 BD]) (by simp [results, Tryd.results18, go_sem, z0, z1]) rfl ?_
            unfold RSplPost
            exact ⟨_, rfl, World.ownsRow_nil _ _ _ _, HE1.out⟩
        · have h4' : root.size < from_ := by omega
          rw [if_neg (fun h => h4 h.2.2.2)] at hr
          subst hr
          clear h1
          obtain ⟨E1, z0, z1⟩ := splice_end HR2.out
          have HE1 := Lib.hid (HMF.out.setCell2 E1)
          clear E1
          go_wp2_with fail
          refine bodyPost_ret (v := .tuple #[.agg #[.string ⟨#[]⟩, .int .i64 0], .slice none 0 0, .int .i64 2]) (by simp [results, Tryd.results18, go_sem, z0, z1]) rfl ?_
          unfold RSplPost
          exact ⟨_, rfl, World.ownsRow_nil _ _ _ _, HE1.out⟩
      · have h3' : n < 0 := by omega
        rw [if_neg (fun h => h3 h.2.2.1)] at hr
        subst hr
        clear h1
        obtain ⟨E1, z0, z1⟩ := splice_end HR2.out
        have HE1 := Lib.hid (HMF.out.setCell2 E1)
        clear E1
        go_wp2_with fail
        refine bodyPost_ret (v := .tuple #[.agg #[.string ⟨#[]⟩, .int .i64 0], .slice none 0 0, .int .i64 2]) (by simp [results, Tryd.results18, go_sem, z0, z1]) rfl ?_
        unfold RSplPost
        exact ⟨_, rfl, World.ownsRow_nil _ _ _ _, HE1.out⟩
    · have h2' : from_ < 0 := by omega
      rw [if_neg (fun h => h2 h.2.1)] at hr
      subst hr
      clear h1
      obtain ⟨E1, z0, z1⟩ := splice_end HR2.out
      have HE1 := Lib.hid (HMF.out.setCell2 E1)
      clear E1
      go_wp2_with fail
      refine bodyPost_ret (v := .tuple #[.agg #[.string ⟨#[]⟩, .int .i64 0], .slice none 0 0, .int .i64 2]) (by simp [results, Tryd.results18, go_sem, z0, z1]) rfl ?_
      unfold RSplPost
      exact ⟨_, rfl, World.ownsRow_nil _ _ _ _, HE1.out⟩
  · rw [if_neg (fun h => h1 h.1)] at hr
    subst hr
    have h2 : rightP root = false := by simpa using h1
    rw [h2]
    clear h1
    obtain ⟨E1, z0, z1⟩ := splice_end HR2.out
    have HE1 := Lib.hid (HMF.out.setCell2 E1)
    clear E1
    go_wp2_with fail
    refine bodyPost_ret (v := .tuple #[.agg #[.string ⟨#[]⟩, .int .i64 0], .slice none 0 0, .int .i64 2]) (by simp [results, Tryd.results18, go_sem, z0, z1]) rfl ?_
    unfold RSplPost
    exact ⟨_, rfl, World.ownsRow_nil _ _ _ _, HE1.out⟩
end Blob
end Go.Proofs.YthgcjfpaekpeeaaDoor
