/- Joined texts: BlobW. -/
import Derived.Test.YthgcjfpaekpeeaaDoorJ39
/- The walk of blob.Read. -/
namespace Go.Proofs.YthgcjfpaekpeeaaDoor
set_option linter.unusedVariables false
set_option linter.unusedSimpArgs false
open Go.RowKit K Wire Go.Maps
namespace Blob
open Go.Proofs.YthgcjfpaekpeeaaDoor.Obj

/-- what Read answers, which ids it asks -/
noncomputable def readL (objs : List Ob) (root : Part) (from_ n : Int) : List UInt8 × List ByteArray × Int :=
  if rightP root = true ∧ 0 ≤ from_ ∧ 0 ≤ n then
    if from_ < root.size ∧ n ≠ 0 then
      if (rdR objs from_ (if n < root.size - from_ then from_ + n else root.size) root ⟨[], [], [], 0⟩).bad ≠ 0 then
        ([], (rdR objs from_ (if n < root.size - from_ then from_ + n else root.size) root ⟨[], [], [], 0⟩).asked, (rdR objs from_ (if n < root.size - from_ then from_ + n else root.size) root ⟨[], [], [], 0⟩).bad)
      else ((rdR objs from_ (if n < root.size - from_ then from_ + n else root.size) root ⟨[], [], [], 0⟩).data, (rdR objs from_ (if n < root.size - from_ then from_ + n else root.size) root ⟨[], [], [], 0⟩).asked, 0)
    else ([], [], 0)
  else ([], [], 2)
theorem rightP_spec {p : Part} (h : rightP p = true) : p.id.size = 32 ∧ 0 ≤ p.size ∧ p.size ≤ 262144 := by
  unfold rightP at h
  simp only [Bool.and_eq_true, decide_eq_true_eq] at h
  omega
def ReadPost (G : Gt) (r : List UInt8 × List ByteArray × Int) (w : World) (e : Ending) (w' : World) : Prop :=
  e = .returned (.tuple #[.string ⟨r.1.toArray⟩, .int .i64 r.2.2]) ∧ G.I r.2.1 w' ∧ Mod (Ty G.B tR w) w w'

set_option maxRecDepth 100000 in
set_option maxHeartbeats 8000000 in
theorem pRead_calls {G : Gt} {objs : List Ob} (ok : GtOk G objs) (hob : ObsOk objs) (root : Part) (from_ n : Int) (w : World) (hI : G.I [] w) (hB : G.B ≤ w.heap.size) (hf : In64 from_) (hn : In64 n) :
    Calls Tryd.prog 12 #[.func (.func G.ks) #[] G.caps, .agg #[.string root.id, .int .i64 root.size], .int .i64 from_, .int .i64 n] w (ReadPost G (readL objs root from_ n) w) := by
  have hm1 := (Mod.refl (fun _ => False) w).alloc (.cells #[.string root.id, .int .i64 root.size] 25)
  have hb1 := Has.new w [.string root.id, .int .i64 root.size] 25
  have x0 := hb1.cell (o := 0) rfl
  have x1 := hb1.cell (o := 1) rfl
  obtain ⟨r, hr⟩ : ∃ r, readL objs root from_ n = r := ⟨_, rfl⟩
  rw [hr]
  unfold readL at hr
  unfold ReadPost
  unfold In64 at hf hn
  by_cases h1 : rightP root = true
  · have HRP := Lib.hid h1
    by_cases h2 : 0 ≤ from_
    · by_cases h3 : 0 ≤ n
      · rw [if_pos ⟨h1, h2, h3⟩] at hr
        have h2' : ¬ from_ < 0 := by omega
        have h3' : ¬ n < 0 := by omega
        have hrp := rightP_spec h1
        go_enter Tryd.func12, Tryd.ntmps12
        go_wp2_with fail
        refine (right_calls root _).mono ?_
        rintro e w2 ⟨rfl, hm2⟩
        have hb2 := hb1.keep hm2 (fun h => h)
        have hm := Mod.trans hm1 hm2 (fun _ _ h => h)
        rw [h1]
        have y0 := hb2.cell (o := 0) rfl
        have y1 := hb2.cell (o := 1) rfl
        have hzw := hb2.lt
        have HB2 := Lib.hid hb2
        have HM2 := Lib.hid hm
        have hsp : ∀ h : Int, SpIs G w.heap.size w2.heap.size from_ h (.slice none 0 0) [] (w2.alloc (.cells #[.func (.func G.ks) #[] G.caps, .int .i64 from_, .int .i64 h, .slice none 0 0] 74)) ∧
            G.I [] (w2.alloc (.cells #[.func (.func G.ks) #[] G.caps, .int .i64 from_, .int .i64 h, .slice none 0 0] 74)) ∧ Mod (Ty G.B tR w) w (w2.alloc (.cells #[.func (.func G.ks) #[] G.caps, .int .i64 from_, .int .i64 h, .slice none 0 0] 74)) := fun h =>
          ⟨⟨Has.new w2 [.func (.func G.ks) #[] G.caps, .int .i64 from_, .int .i64 h, .slice none 0 0] _, World.ownsRow_nil _ _ _ _, by have := hm.size; omega⟩, ok.keep _ _ _ _ hI (hm.alloc _) (fun _ _ h => h), (hm.alloc _).mono fun _ _ h => h.elim⟩
        have HSP := Lib.hid hsp
        have hwz := hm.size
        clear hb2 hm hm2 hm1 hb1 x0 x1 h1 hI hsp
        by_cases h4 : from_ < root.size
        · have h4' : ¬ root.size ≤ from_ := by omega
          by_cases h5 : n = 0
          · rw [if_neg (fun h => h.2 h5)] at hr
            subst hr
            have b5 : (n == 0) = true := by simpa using h5
            have hsp := HSP.out root.size
            have HI5 := Lib.hid hsp.2.1
            have HM5 := Lib.hid hsp.2.2
            clear h5 hsp
            go_wp2_with fail
            go_ret2
            exact ⟨rfl, HI5.out, HM5.out⟩
          · have b5 : (n == 0) = false := by simpa using h5
            rw [if_pos ⟨h4, h5⟩] at hr
            have hw1 : IntKind.i64.wrap (root.size - from_) = root.size - from_ := by rw [IntKind.wrap_i64]; omega
            by_cases h6 : n < root.size - from_
            · simp only [if_pos h6] at hr
              have hw2 : IntKind.i64.wrap (from_ + n) = from_ + n := by rw [IntKind.wrap_i64]; omega
              have hsp := HSP.out (from_ + n)
              have HRL := Lib.hid hr
              have hws := hsp.1.box.lt
              clear hr
              go_wp2_with fail
              refine (readR_calls ok hob (by omega) root ⟨[], [], [], 0⟩ (.slice none 0 0) _ ⟨rfl, hsp.2.1, hsp.1, by omega, by omega, by omega, by unfold Need; simp; omega, by simp; omega, by simp; omega⟩ (by omega)).mono ?_
              rintro e w5 ⟨rfl, ⟨out5, hsp5⟩, hI5, hm5⟩
              have hrl := HRL.out
              obtain ⟨y, hy⟩ : ∃ y, rdR objs from_ (from_ + n) root ⟨[], [], [], 0⟩ = y := ⟨_, rfl⟩
              simp only [hy] at hsp5 hI5 hrl ⊢
              have HM5 := Lib.hid (Ty.trans hsp.2.2 hm5)
              have HI5 := Lib.hid hI5
              obtain ⟨A5, c5, rfl, _, hcl5, _, _⟩ := own_cells hsp5.own
              have q3 := hsp5.box.cell (o := 3) rfl
              have hcv := run_bytes (P := Tryd.prog) c5 hcl5 72 9 5 Tryd.underlying72 Tryd.underlying5 Tryd.underlying9
              clear hsp5 hI5 hm5 hy hcl5 hsp
              by_cases hb0 : y.bad = 0
              · have b1 : (y.bad != 0) = false := by simpa using hb0
                rw [if_neg (fun h => h hb0)] at hrl
                subst hrl
                clear hb0
                go_wp2_with fail
                go_ret2
                exact ⟨rfl, HI5.out, HM5.out⟩
              · have b1 : (y.bad != 0) = true := by simpa using hb0
                rw [if_pos hb0] at hrl
                subst hrl
                clear hb0
                go_wp2_with fail
                go_ret2
                exact ⟨rfl, HI5.out, HM5.out⟩
            · simp only [if_neg h6] at hr
              have hsp := HSP.out (root.size)
              have HRL := Lib.hid hr
              have hws := hsp.1.box.lt
              clear hr
              go_wp2_with fail
              refine (readR_calls ok hob (by omega) root ⟨[], [], [], 0⟩ (.slice none 0 0) _ ⟨rfl, hsp.2.1, hsp.1, by omega, by omega, by omega, by unfold Need; simp; omega, by simp; omega, by simp; omega⟩ (by omega)).mono ?_
              rintro e w5 ⟨rfl, ⟨out5, hsp5⟩, hI5, hm5⟩
              have hrl := HRL.out
              obtain ⟨y, hy⟩ : ∃ y, rdR objs from_ (root.size) root ⟨[], [], [], 0⟩ = y := ⟨_, rfl⟩
              simp only [hy] at hsp5 hI5 hrl ⊢
              have HM5 := Lib.hid (Ty.trans hsp.2.2 hm5)
              have HI5 := Lib.hid hI5
              obtain ⟨A5, c5, rfl, _, hcl5, _, _⟩ := own_cells hsp5.own
              have q3 := hsp5.box.cell (o := 3) rfl
              have hcv := run_bytes (P := Tryd.prog) c5 hcl5 72 9 5 Tryd.underlying72 Tryd.underlying5 Tryd.underlying9
              clear hsp5 hI5 hm5 hy hcl5 hsp
              by_cases hb0 : y.bad = 0
              · have b1 : (y.bad != 0) = false := by simpa using hb0
                rw [if_neg (fun h => h hb0)] at hrl
                subst hrl
                clear hb0
                go_wp2_with fail
                go_ret2
                exact ⟨rfl, HI5.out, HM5.out⟩
              · have b1 : (y.bad != 0) = true := by simpa using hb0
                rw [if_pos hb0] at hrl
                subst hrl
                clear hb0
                go_wp2_with fail
                go_ret2
                exact ⟨rfl, HI5.out, HM5.out⟩
        · have h4' : root.size ≤ from_ := by omega
          rw [if_neg (fun h => h4 h.1)] at hr
          subst hr
          have hsp := HSP.out root.size
          have HI5 := Lib.hid hsp.2.1
          have HM5 := Lib.hid hsp.2.2
          clear hsp
          go_wp2_with fail
          go_ret2
          exact ⟨rfl, HI5.out, HM5.out⟩
      · rw [if_neg (fun h => h3 h.2.2)] at hr
        subst hr
        have h2' : ¬ from_ < 0 := by omega
        have h3' : n < 0 := by omega
        go_enter Tryd.func12, Tryd.ntmps12
        go_wp2_with fail
        refine (right_calls root _).mono ?_
        rintro e w2 ⟨rfl, hm2⟩
        have hm := Mod.trans hm1 hm2 (fun _ _ h => h)
        have HI := Lib.hid (ok.keep _ _ _ _ hI hm (fun _ _ h => h))
        have HM := Lib.hid (hm.mono (S' := Ty G.B tR w) fun _ _ h => h.elim)
        rw [HRP.out]
        clear hm hm2
        go_wp2_with fail
        go_ret2
        exact ⟨rfl, HI.out, HM.out⟩
    · rw [if_neg (fun h => h2 h.2.1)] at hr
      subst hr
      have h2' : from_ < 0 := by omega
      go_enter Tryd.func12, Tryd.ntmps12
      go_wp2_with fail
      refine (right_calls root _).mono ?_
      rintro e w2 ⟨rfl, hm2⟩
      have hm := Mod.trans hm1 hm2 (fun _ _ h => h)
      have HI := Lib.hid (ok.keep _ _ _ _ hI hm (fun _ _ h => h))
      have HM := Lib.hid (hm.mono (S' := Ty G.B tR w) fun _ _ h => h.elim)
      rw [HRP.out]
      clear hm hm2
      go_wp2_with fail
      go_ret2
      exact ⟨rfl, HI.out, HM.out⟩
  · rw [if_neg (fun h => h1 h.1)] at hr
    subst hr
    have h1' : rightP root = false := by simpa using h1
    have HRP := Lib.hid h1'
    clear h1 h1'
    go_enter Tryd.func12, Tryd.ntmps12
    go_wp2_with fail
    refine (right_calls root _).mono ?_
    rintro e w2 ⟨rfl, hm2⟩
    have hm := Mod.trans hm1 hm2 (fun _ _ h => h)
    have HI := Lib.hid (ok.keep _ _ _ _ hI hm (fun _ _ h => h))
    have HM := Lib.hid (hm.mono (S' := Ty G.B tR w) fun _ _ h => h.elim)
    rw [HRP.out]
    clear hm hm2
    go_wp2_with fail
    go_ret2
    exact ⟨rfl, HI.out, HM.out⟩
end Blob
end Go.Proofs.YthgcjfpaekpeeaaDoor
