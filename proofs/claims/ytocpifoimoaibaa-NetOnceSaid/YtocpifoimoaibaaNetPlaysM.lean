/- The walk of the law NetPlays. -/
import Derived.Test.YtocpifoimoaibaaNetPlaysL
namespace Go.Proofs.Ytocpifoimoaibaa
set_option linter.unusedVariables false
set_option linter.unusedSimpArgs false
open Go.RowKit K
namespace Net

/-- an argument of fates -/
structure FatesIn (w : World) (A : Option Addr) (c : Nat) (l : List Fate) : Prop where
  cells : Cells w A (fcs l)
  cap : l.length ≤ c
  max : c ≤ maxLen
  size : l.length * 24 ≤ 140737488351232
  wf : FWf l

/-- what holds inside, behind so many frames that came there -/
def InRel (d : Pl) (rn : Nat) (come wt2 wb : List ByteArray) (l' : List Fate) (met : List ByteArray) (p2 : NP) (F2 : Nat → Prop) (w w3 : World) (k : Nat) (vw : Value) (wr : World) : Prop :=
  ∃ q : RP, RefAt wr q (d.V.asks (come.take k) l' wb met).l wt2 (d.V.asks (come.take k) l' wb met).wb ∧ q.rn = rn ∧ (∀ i, q.fp i → ¬ p2.fp i ∧ ¬ F2 i ∧ w.heap.size ≤ i) ∧
    wr.ownsRow w3.heap.size 9 1 vw (d.V.asks (come.take k) l' wb met).out.length (sv (d.V.asks (come.take k) l' wb met).out) ∧ (∀ i, vw.ownBlock = some i → ¬ q.fp i) ∧ Mod (fun i => i = rn) w3 wr

def plD (w : World) (Aa : Option Addr) (ca : Nat) (ans : List ByteArray) (mb : Nat) : Pl := ⟨w.heap.size, mb, w.heap.size, Aa, ca, ans⟩

/-- what holds at the head of the law's loop -/
structure PlaysAt (d : Pl) (i : Nat) (p : NP) (q : RP) (F : Nat → Prop) (l : List Fate) (wt wb met : List ByteArray) (sent : Nat) (wr : World) : Prop where
  both : Both d.V wr p F sent l wt wb met
  ref : RefAt wr q l wt wb
  apart : ∀ k, q.fp k → ¬ p.fp k ∧ ¬ F k
  small : Small d.V l wt wb met
  n1 : met.length + wt.length ≤ 2 * i
  n2 : wb.length ≤ 2 * met.length
  n3 : sent ≤ i

theorem PlaysAt.keep {d : Pl} (ok : d.Ok) {i : Nat} {p : NP} {q : RP} {F S : Nat → Prop} {l : List Fate} {wt wb met : List ByteArray} {sent : Nat} {w w' : World} (h : PlaysAt d i p q F l wt wb met sent w) (m : Mod S w w') (h1 : ∀ k, p.fp k ∨ F k ∨ q.fp k → ¬ S k) : PlaysAt d i p q F l wt wb met sent w' :=
  ⟨h.both.keep (play_ok d ok) m (fun k hk => h1 k (hk.imp id .inl)), h.ref.keep m (fun k hk => h1 k (.inr (.inr hk))), h.apart, h.small, h.n1, h.n2, h.n3⟩

theorem PlaysAt.next {d : Pl} {i : Nat} {p : NP} {q : RP} {F : Nat → Prop} {l : List Fate} {wt wb met : List ByteArray} {sent : Nat} {w : World} (h : PlaysAt d i p q F l wt wb met sent w) : PlaysAt d (i + 1) p q F l wt wb met sent w :=
  ⟨h.both, h.ref, h.apart, h.small, by have := h.n1; omega, h.n2, by have := h.n3; omega⟩
theorem same_quiet {A1 A2 : Option Addr} {c1 c2 : Nat} {l : List ByteArray} {w : World} (h1 : Frames w A1 c1 l) (h2 : Frames w A2 c2 l) (m : Nat) :
    Calls Try.prog 14 #[.slice A1 l.length c1, .slice A2 l.length c2] (w.drewN m) fun e w' => e = .returned (.bool true) ∧ ∃ n, w' = (w.drewN m).drewN n :=
  same_calls A1 A2 c1 c2 l (w.drewN m) (h1.keep ((Mod.refl (fun _ => False) w).drewN m) (fun _ _ h => h)) (h2.keep ((Mod.refl (fun _ => False) w).drewN m) (fun _ _ h => h))
theorem NetAt.drewN {w : World} {sf : Value} {p : NP} {sent : Nat} {l : List Fate} {wt wb : List ByteArray} (h : NetAt w sf p sent l wt wb) (m : Nat) : NetAt (w.drewN m) sf p sent l wt wb := h.keep ((Mod.refl (fun _ => False) w).drewN m) (fun _ _ h => h)

/-- what holds at the head of the law's loop: the places hidden -/
def PlaysRel (d : Pl) (bn rn : Nat) (i : Nat) (met : List ByteArray) (sent : Nat) (w wr : World) : Prop :=
  ∃ p q F l wt wb, PlaysAt d i p q F l wt wb met sent wr ∧ p.bn = bn ∧ q.rn = rn ∧ (∀ k, p.fp k ∨ q.fp k → w.heap.size ≤ k) ∧ Mod (fun _ => False) w wr

theorem play_st (d : Pl) (come : List ByteArray) (l : List Fate) (wb met : List ByteArray) : (d.V.asks come l wb met).st = met ++ come := by
  unfold Srv.asks
  have h : ∀ (come : List ByteArray) (x : AS (List ByteArray)), (come.foldl d.V.back x).st = x.st ++ come := by
    intro come
    induction come with
    | nil => intro x; simp
    | cons c r ih =>
      intro x
      rw [List.foldl_cons, ih]
      have hb : (d.V.back x c).st = x.st ++ [c] := by unfold Srv.back; split <;> rfl
      rw [hb]; simp
  exact h come _

set_option maxRecDepth 100000 in
set_option maxHeartbeats 4000000 in
theorem netPlays_calls (A0 : Option Addr) (c0 : Nat) (l : List Fate) (A1 : Option Addr) (c1 : Nat) (fr : List ByteArray) (A2 : Option Addr) (c2 : Nat) (an : List ByteArray) (w : World)
    (h0 : FatesIn w A0 c0 l) (h1 : TextsIn w A1 fr) (h2 : TextsIn w A2 an) :
    Calls Try.prog 3 #[.slice A0 l.length c0, .slice A1 fr.length c1, .slice A2 an.length c2] w fun e w' => e = .returned (.bool true) ∧ Below w.heap.size w w' := by
  have hsz := h0.size
  have hlt : ∀ a, A2 = some a → an ≠ [] → a.block < w.heap.size := fun a ha hl => by
    rcases h2.row with h | ⟨b, o, hA, h⟩
    · exact absurd (by simpa using h) hl
    · rw [ha] at hA
      obtain rfl := Option.some.inj hA
      have h0 : 0 < an.length := List.length_pos_iff.2 hl
      exact World.block_lt_of_cell? w _ (h 0 _ (sv_get an 0 h0))
  have H0 := Lib.hid h0
  have H1 := Lib.hid h1
  have H2 := Lib.hid h2
  have HLT := Lib.hid hlt
  clear h0 h1 h2 hlt
  go_enter Try.func3, Try.ntmps3
  go_wp2_with fail
  refine (shown_calls _).mono ?_
  rintro e w1 ⟨rfl, hm1⟩
  have hm10 : Mod (fun _ => False) w w1 := Mod.trans (Mod.alloc (Mod.refl _ _) _) hm1 (fun _ _ h => h)
  have hab := (Has.new w [.slice A2 an.length c2] 23).keep hm1 (fun h => h)
  have HM1 := Lib.hid hm10
  have HAB1 := Lib.hid hab
  clear hm1 hm10 hab
  go_wp2_with fail
  refine (none_calls _).mono ?_
  rintro e w2 ⟨rfl, hm2⟩
  have HM2 := Lib.hid (Mod.trans HM1.out hm2 (fun _ _ h => h))
  have HAB2 := Lib.hid (HAB1.out.keep hm2 (fun h => h))
  have hz2 : w.heap.size < w2.heap.size := Nat.lt_of_lt_of_le HAB1.out.lt hm2.size
  clear hm2 HM1 HAB1
  go_wp2_with (first
    | (at_builtin
       go_must (refine appG (.tmp 29) (.tmp 30) T_fate w.heap.size (.slice (some ⟨w2.heap.size + 1, 0, none⟩) 0 0) 0 [] (own_lit (by simp) (by omega) (Nat.zero_le _) rfl) A0 l.length c0 (fcs l) rfl rfl rfl rfl (fcs_len l) (H0.out.cells.keep (((HM2.out).alloc _).alloc _) (fun _ _ h => h)) (fcs_one l) (by omega) (by unfold maxLen; omega) (by simp; omega) ?_; intro v3 w3 hown3 hm3 hrow3)
       simp only [Nat.zero_add, List.nil_append] at hown3
       obtain ⟨A3, c3, rfl, hF3, hb3⟩ := own_fates hown3
       have hm30 : Mod (fun _ => False) w w3 := Mod.trans ((HM2.out.alloc _).alloc _) hm3 (fun i hi h => by simp [Value.ownBlock] at h; omega)
       have hmb3 := (Has.lit (w := w2) (n := w2.heap.size) (cs := [Value.slice none 0 0]) (T := 23) rfl).alloc (.cells #[] 35) |>.keep hm3 (fun h => by simp [Value.ownBlock] at h)
       have hab3 := ((HAB2.out.alloc (.cells #[.slice none 0 0] 23)).alloc (.cells #[] 35)).keep hm3 (fun h => by simp [Value.ownBlock] at h; omega)
       have hz3 := hm3.size
       simp only [size_alloc] at hz3
       have HO3 := Lib.hid hown3
       have HF3 := Lib.hid hF3
       have HB3 := Lib.hid hb3
       have HM3 := Lib.hid hm30
       have HMB3 := Lib.hid hmb3
       have HAB3 := Lib.hid hab3
       clear hown3 hm3 hrow3 hF3 hb3 hm30 hmb3 hab3))
  by_cases hbad : anyBad l = true
  · refine (new_bad 8 _ A3 c3 l w3 HF3.out.cells HF3.out.cap HF3.out.max hbad).mono ?_
    rintro e w4 ⟨rfl, hm4⟩
    have HM4 := Lib.hid (Mod.trans HM3.out hm4 (fun _ _ h => h))
    have HR := Lib.hid (right_calls A0 c0 l w4 (H0.out.cells.keep HM4.out (fun _ _ h => h)) H0.out.cap H0.out.max)
    rw [hbad] at HR
    clear hm4
    go_wp2_with fail
    refine HR.out.mono ?_
    rintro e w5 ⟨rfl, hw⟩; subst hw
    go_wp2_with fail
    go_ret
    exact ⟨rfl, HM4.out.below (fun _ _ h => h)⟩
  · rw [Bool.not_eq_true] at hbad
    refine (new_calls 8 _ A3 c3 l w3 HF3.out.cells HF3.out.cap HF3.out.max hbad (by omega)).mono ?_
    rintro e w4 ⟨p, rfl, hN4, hfp4, hm4⟩
    have hmb4 := HMB3.out.keep hm4 (fun h => h)
    have hab4 := HAB3.out.keep hm4 (fun h => h)
    have hm40 := Mod.trans HM3.out hm4 (fun _ _ h => h)
    have hz4 := hm4.size
    have HR := Lib.hid (right_calls A0 c0 l w4 (H0.out.cells.keep hm40 (fun _ _ h => h)) H0.out.cap H0.out.max)
    rw [hbad] at HR
    have x0 := hmb4.cell (o := 0) rfl
    have HN4 := Lib.hid hN4
    have HFP := Lib.hid hfp4
    have HM4 := Lib.hid hm40
    have HMB4 := Lib.hid hmb4
    have HAB4 := Lib.hid hab4
    have HO4 := Lib.hid (own_keep HO3.out hm4 (fun _ _ _ h => h))
    have HL3 := Lib.hid (HO3.out.lt)
    clear hm4 hm40 hN4 hfp4 hmb4 hab4 HO3 HMB3 HAB3 HM3 HF3
    go_wp2_with fail
    refine HR.out.mono ?_
    rintro e w5 ⟨rfl, hw⟩; subst hw
    go_wp2_with (first
      | (at_builtin
         go_must (refine appG (.tmp 79) (.tmp 80) T_fate (w5.heap.size + 1) (.slice none 0 0) 0 [] (World.ownsRow_nil _ _ _ _) A0 l.length c0 (fcs l) rfl rfl rfl rfl (fcs_len l) (H0.out.cells.keep (HM4.out.alloc _) (fun _ _ h => h)) (fcs_one l) (by omega) (by unfold maxLen; omega) (by simp) ?_; intro v6 w6 hown6 hm6 hrow6)
         simp only [Nat.zero_add, List.nil_append] at hown6
         obtain ⟨A6, c6, rfl, hF6, hb6⟩ := own_fates hown6
         have hm60 : Mod (fun _ => False) w5 w6 := Mod.trans (Mod.alloc (Mod.refl _ _) _) hm6 (fun i hi h => by cases h)
         have hr6 := (Has.new w5 [.slice none 0 0, .slice none 0 0, .slice none 0 0] 33).keep hm6 (fun h => by cases h)
         have z0 := hr6.cell (o := 0) rfl
         have z1 := hr6.frozen 0
         have hz6 := hm60.size
         have hz6' := hr6.lt
         have HR6 := Lib.hid hr6
         have HF6 := Lib.hid hF6
         have HB6 := Lib.hid hb6
         have HM6 := Lib.hid hm60
         clear hown6 hm6 hrow6 hF6 hb6 hm60 hr6))
    have hok : (⟨w.heap.size, w2.heap.size, w.heap.size, A2, c2, an⟩ : Pl).Ok := ⟨Nat.le_of_lt hz2, Nat.le_refl _, Nat.ne_of_gt hz2, HLT.out, H2.out.size, H2.out.len⟩
    have hM67 : Mod (fun _ => False) w5 (w6.setCell ⟨w5.heap.size, 0, none⟩ (.slice A6 l.length c6)) := HM6.out.setCell (p := ⟨w5.heap.size, 0, none⟩) (.inr (Nat.le_refl _)) _
    have hM7 : Mod (fun _ => False) w (w6.setCell ⟨w5.heap.size, 0, none⟩ (.slice A6 l.length c6)) := Mod.trans HM4.out hM67 (fun _ _ h => h)
    have hmr : Mod (fun k => k = w5.heap.size) w6 (w6.setCell ⟨w5.heap.size, 0, none⟩ (.slice A6 l.length c6)) := (Mod.refl (fun k => k = w5.heap.size) w6).set1 rfl _ _
    have hdf : ∀ k, (⟨w.heap.size, w2.heap.size, w.heap.size, A2, c2, an⟩ : Pl).fp (.slice none 0 0) k → k ≤ w2.heap.size := by
      rintro k (hk | hk | hk | ⟨a, ha, rfl, hl⟩)
      · dsimp only at hk; omega
      · dsimp only at hk; omega
      · cases hk
      · have := HLT.out a ha hl; omega
    have hqf : ∀ k, RP.fp ⟨w5.heap.size, A6, c6, none, 0, none, 0⟩ k → w5.heap.size ≤ k := by
      rintro k (hk | ⟨a, ha, rfl⟩ | ⟨a, ha, rfl⟩ | ⟨a, ha, rfl⟩)
      · dsimp only at hk; omega
      · have := HB6.out a ha; omega
      · cases ha
      · cases ha
    have hpl : PlaysAt ⟨w.heap.size, w2.heap.size, w.heap.size, A2, c2, an⟩ 0 p ⟨w5.heap.size, A6, c6, none, 0, none, 0⟩ ((⟨w.heap.size, w2.heap.size, w.heap.size, A2, c2, an⟩ : Pl).fp (.slice none 0 0)) l [] [] [] 0 (w6.setCell ⟨w5.heap.size, 0, none⟩ (.slice A6 l.length c6)) := by
      refine ⟨⟨HN4.out.keep hM67 (fun _ _ h => h), ⟨_, ⟨HMB4.out.keep hM67 (fun h => h), World.ownsRow_nil _ _ _ _, HAB4.out.keep hM67 (fun h => h), H2.out.row.keep hM7 (fun _ _ h => h), fun a ha hl => ?_⟩, rfl⟩, fun k hk hd => ?_⟩,
        ⟨HR6.out.set 0 _, HF6.out.keep hmr (fun a ha => has_ne HR6.out (HF6.out.row a ha) (by decide)), frames_nil _, frames_nil _⟩, fun k hk => ⟨fun h => ?_, fun h => ?_⟩, ⟨H0.out.wf, (fun _ h => by cases h), (fun _ h => by cases h), Nat.zero_le _, Nat.zero_le _, Nat.zero_le _⟩, Nat.le_refl _, Nat.le_refl _, Nat.le_refl _⟩
      · exact Nat.lt_of_lt_of_le (HLT.out a ha hl) hM7.size
      · have h1 := HFP.out k hk; have h2 := hdf k hd; omega
      · have h1 := HN4.out.lt k h; have h2 := hqf k hk; omega
      · have h1 := hdf k h; have h2 := hqf k hk; omega
    have hg7 : ∀ k, (Value.slice A3 l.length c3).ownBlock = some k → ¬ (p.fp k ∨ (⟨w.heap.size, w2.heap.size, w.heap.size, A2, c2, an⟩ : Pl).fp (.slice none 0 0) k ∨ RP.fp ⟨w5.heap.size, A6, c6, none, 0, none, 0⟩ k) := by
      intro k hk
      have hl := HL3.out k hk
      rintro (h | h | h)
      · have := HFP.out k h; omega
      · rcases h with h | h | h | ⟨a, ha, rfl, hal⟩
        · exact has_ne HMB4.out (own_row HO4.out hk) (by decide) h
        · exact has_ne HAB4.out (own_row HO4.out hk) (by decide) h
        · cases h
        · have := HLT.out a ha hal; omega
      · have := hqf k h; omega
    have hO7 : (w6.setCell ⟨w5.heap.size, 0, none⟩ (.slice A6 l.length c6)).ownsRow w.heap.size 35 3 (.slice A3 l.length c3) l.length (fcs l) := own_keep HO4.out hM67 (fun _ _ _ h => h)
    have HLOW := Lib.hid (fun k (hk : p.fp k ∨ RP.fp ⟨w5.heap.size, A6, c6, none, 0, none, 0⟩ k) => (by rcases hk with hk | hk; (have := HFP.out k hk; omega); (have := hqf k hk; omega) : w.heap.size ≤ k))
    have HOK := Lib.hid hok
    have HPL := Lib.hid hpl
    have HG7 := Lib.hid hg7
    have HM7 := Lib.hid hM7
    have HO7 := Lib.hid hO7
    clear hok hpl hg7 hM7 hO7 hM67 hmr hdf hqf HL3 HO4 HAB4 HMB4 HN4 HFP HR6 HF6 HB6 HM6 HM4 HR HB3
    go_wp2_with fail
    generalize w6.setCell ⟨w5.heap.size, 0, none⟩ (.slice A6 l.length c6) = w7 at *
    generalize hd : (⟨w.heap.size, w2.heap.size, w.heap.size, A2, c2, an⟩ : Pl) = d at *
    generalize hq : (⟨w5.heap.size, A6, c6, none, 0, none, 0⟩ : RP) = q at *
    have HQR : Hid (q.rn = w5.heap.size) := Lib.hid (by rw [← hq])
    clear hq
    have hdB := hd
    go_loopw [16] (fun i wr => ∃ (k : Nat) (xs : List Value), i = .int .i64 k ∧ k ≤ l.length ∧ Hid (wr.ownsRow w.heap.size 35 3 (.slice A3 l.length c3) l.length xs) ∧ Hid (Mod (fun b => (Value.slice A3 l.length c3).ownBlock = some b) w7 wr)) (fun i _ => l.length - (intOf i).toNat)
    case atStart => exact ⟨0, _, by go_num, by omega, HO7, Lib.hid (Mod.refl _ _)⟩
    case round =>
      obtain ⟨k, xs, rfl, hk, HX, HMX⟩ := hrel
      by_cases hlt : k < l.length
      · have i1 : (k : Int) < (l.length : Int) := by omega
        rcases HX.out.2 with ⟨_, h0⟩ | ⟨g, cap, cur, hv, _⟩
        · omega
        obtain ⟨rfl, rfl⟩ : A3 = some ⟨g, 0, none⟩ ∧ c3 = cap := by simpa using hv
        have hxl := HX.out.1
        have hcell := HX.out.cellAt (k * 3) (by omega)
        rw [List.getElem?_eq_getElem (by omega)] at hcell
        have hfz := HX.out.frozenAt (k * 3)
        have hst := HX.out.stored (k * 3) (.int .i64 99)
        have HX2 := Lib.hid hst.1
        have HMX2 : Hid (Mod (fun b => (Value.slice (some ⟨g, 0, none⟩) l.length c3).ownBlock = some b) w7 (wr.setCell ⟨g, k * 3, none⟩ (.int .i64 99))) := Lib.hid (HMX.out.setCell (p := ⟨g, k * 3, none⟩) (.inl rfl) _)
        clear hst hv
        go_wp2_with fail
        go_roundw
        case rel => exact ⟨k + 1, _, by go_num, by omega, HX2, HMX2⟩
        case measure => simp [intOf]; omega
      · have i1 : ¬ (k : Int) < (l.length : Int) := by omega
        have hrel0 : PlaysRel d p.bn w5.heap.size 0 [] 0 w wr := by
          refine ⟨p, q, d.fp (.slice none 0 0), l, [], [], HPL.out.keep HOK.out HMX.out (fun k hk h => HG7.out k h hk), rfl, HQR.out, HLOW.out, ?_⟩
          exact Mod.trans HM7.out HMX.out (fun i hi h => by have := (HO7.out.lt i h).1; omega)
        have HREL := Lib.hid hrel0
        clear hrel0 HPL HMX HX
        have HDM : Hid (d.mb = w2.heap.size) := Lib.hid (by rw [← hd])
        have HDB : Hid (d.ab = w.heap.size) := Lib.hid (by rw [← hd])
        have HDN : Hid (d.ans = an ∧ d.Aa = A2 ∧ d.ca = c2 ∧ d.B = w.heap.size) := Lib.hid (by rw [← hd]; exact ⟨rfl, rfl, rfl, rfl⟩)
        have hz5 : w.heap.size < w5.heap.size := by omega
        clear hd hdB HO7 HM7 HG7 HQR HLOW HM2 HAB2 z0 z1 x0 hz3 hz4 hz6 hz6' hsz hbad
        go_wp2_with fail
        clear hlt hk i1
        generalize p.bn = bn at *
        generalize w5.heap.size = rn at *
        go_loopw [17, 18, 19, 20] (fun mn sn ok i wr => ∃ (k : Nat) (met : List ByteArray) (sent : Nat), i = .int .i64 k ∧ mn = .int .i64 met.length ∧ sn = .int .i64 sent ∧ ok = .bool true ∧ k ≤ fr.length ∧ k ≤ 100 ∧ Hid (PlaysRel d bn rn k met sent w wr)) (fun _ _ _ i _ => fr.length - (intOf i).toNat)
        case atStart => exact ⟨0, [], 0, by go_num, by go_num, by go_num, rfl, by omega, by omega, HREL⟩
        case round =>
          obtain ⟨k, met, sent, rfl, rfl, rfl, rfl, hk, hk1, HR⟩ := hrel
          by_cases hin : k < fr.length ∧ k < 100
          · obtain ⟨hlt, hlt1⟩ := hin
            have i1 : (k : Int) < (fr.length : Int) := by omega
            have i2 : (k : Int) < 100 := by omega
            obtain ⟨p1, q1, F1, l1, wt, wb, hPA, hbn, hrn, hlow, hmw⟩ := HR.out
            have hcl := H1.out.row.keep hmw (fun _ _ h => h)
            have hsz := H1.out.size fr[k] (List.getElem_mem hlt)
            rcases hcl with hcl | ⟨gf, og, rfl, hcell⟩
            · have hc0 : fr = [] := by simpa using hcl
              rw [hc0] at hlt; simp at hlt
            have ck := hcell k _ (sv_get fr k hlt)
            have ckw : w.cell? ⟨gf, og + k, none⟩ = some (.string fr[k]) := by
              rcases H1.out.row with h | ⟨b, o, hA, h⟩
              · rw [show fr = [] by simpa using h] at hlt; simp at hlt
              · obtain ⟨rfl, rfl⟩ : gf = b ∧ og = o := by simpa using hA
                exact h k _ (sv_get fr k hlt)
            have hgf : gf < w.heap.size := World.block_lt_of_cell? w _ ckw
            generalize fr[k] = s at *
            clear hcell
            by_cases h0 : s.size = 0
            · obtain rfl := str_none s h0
              have hA := ask_none (p := p1) wr
              rw [hbn] at hA
              obtain ⟨vm, hpl, rfl⟩ := hPA.both.srv
              have x0 := hpl.box.cell (o := 0) rfl
              obtain ⟨Am, cm, rfl, _, _, _, _⟩ := own_cells hpl.own
              rw [HDM.out] at x0
              have x1 := hPA.ref.has.cell (o := 0) rfl
              rw [hrn] at x1
              have hS := fun m => sent_calls (wr.drewN m) (hPA.both.net.drewN m)
              have hL := fun m => left_calls (wr.drewN m) (hPA.both.net.drewN m)
              rw [hbn] at hS hL
              have hQ := same_quiet (frames_nil wr) (frames_nil wr)
              have HA := Lib.hid hA
              have HS := Lib.hid hS
              have HL := Lib.hid hL
              have HQ := Lib.hid hQ
              have HR2 : Hid (∀ m, PlaysRel d bn rn (k + 1) met sent w (wr.drewN m)) := Lib.hid fun m => ⟨p1, q1, _, l1, wt, wb, hPA.next.keep HOK.out ((Mod.refl (fun _ => False) wr).drewN m) (fun _ _ h => h), hbn, hrn, hlow, hmw.drewN m⟩
              clear hA hS hL hQ hPA hpl hbn hrn hlow hmw HR HREL
              go_wp2_with fail
              refine HA.out.mono ?_
              rintro e w' ⟨rfl, hw⟩; subst hw
              go_wp2_with fail
              go_quiet (first
                | (go_at_call 14; exact Calls.quiet_of (HQ.out _))
                | (go_at_call 15; exact Calls.quiet_of_same (HS.out _))
                | (go_at_call 16; exact Calls.quiet_of_same (HL.out _)))
              go_wp2_with fail
              go_roundw
              case rel => exact ⟨k + 1, met, sent, by go_num, rfl, rfl, by first | rfl | simp, by omega, by omega, HR2.out _⟩
              case measure => simp [intOf]; omega
            · have hpos : 0 < s.size := by omega
              have hne := str_full s hpos
              have hA := ask_calls (play_ok d HOK.out) (play_ans d HOK.out) p1 F1 sent l1 wt wb met s wr hPA.both hPA.small ⟨hsz, hpos⟩ (by have := hPA.n3; omega)
              rw [hbn] at hA
              have HA := Lib.hid hA
              have HPA := Lib.hid hPA
              have HBN := Lib.hid hbn
              have HRN := Lib.hid hrn
              have HLO := Lib.hid hlow
              have HMW := Lib.hid hmw
              clear hA hPA hbn hrn hlow hmw HR HREL
              go_wp2_with fail
              refine HA.out.mono ?_
              rintro e w2' ⟨v, p2, F2, rfl, ho, hB2, hW2, hd2⟩
              obtain ⟨Ag, cg, rfl, hfg, hfgb⟩ := own_frames ho
              have hR2 := HPA.out.ref.keep hW2.mod (fun i hi h => by rcases h with h | h; exact (HPA.out.apart i hi).1 h; exact (HPA.out.apart i hi).2 h.1)
              have hq2 := fun i (hi : q1.fp i) => hW2.apart (HPA.out.ref.lt i hi) (HPA.out.apart i hi)
              have hmw2 : Mod (fun _ => False) w w2' := Mod.trans HMW.out hW2.mod (fun i hi h => by
                rcases h with h | h
                · have := HLO.out i (.inl h); omega
                · have := h.2; rw [show d.V.own i = (d.B ≤ i) from rfl, HDN.out.2.2.2] at this; omega)
              have hlo2 : ∀ i, p2.fp i → w.heap.size ≤ i := fun i hi => by
                rcases hW2.fp i hi with h | h
                · exact HLO.out i (.inl h)
                · exact Nat.le_trans HMW.out.size h
              have hG := go_calls q1 l1 wt wb s w2' hR2 HPA.out.small.wf hsz hpos (by have := HPA.out.small.nt; omega)
              rw [HRN.out] at hG
              have ck2 : w2'.cell? ⟨gf, og + k, none⟩ = some (.string s) := (hmw2.cell (p := ⟨gf, og + k, none⟩) hgf (fun h => h)).trans ckw
              have hgl := goes_len (hd l1) s wt
              have hga := goes_all (P := d.V.Pt) (hd l1) s wt ⟨hsz, hpos⟩ HPA.out.small.pt (play_ok d HOK.out).ptt
              have hap2 : ∀ i, q1.fp i → ¬ p2.fp i ∧ ¬ F2 i := hq2
              have hn1 := HPA.out.n1
              have hn2 := HPA.out.n2
              have hn3 := HPA.out.n3
              have hwf := HPA.out.small.wf
              have hpbw := HPA.out.small.pb
              have hqlo : ∀ i, q1.fp i → w.heap.size ≤ i := fun i hi => HLO.out i (.inr hi)
              have hqr := HRN.out
              have hbn2 : p2.bn = bn := hW2.bn.trans HBN.out
              generalize hcome : (goes (hd l1) s wt).1 = come at *
              generalize hwt2 : (goes (hd l1) s wt).2 = wt2 at *
              have hst := play_st d come l1.tail wb met
              have hsm := asks_small (play_ok d HOK.out) come l1.tail wb met hwf.tail hpbw (fun st c hc h => play_ans d HOK.out st c (hga.1 c hc) h)
              have hsmf := hsm come.length (Nat.le_refl _)
              rw [List.take_length] at hsmf
              generalize hxf : d.V.asks come l1.tail wb met = xf at *
              have hgne : ∀ a, Ag = some a → a.block ≠ rn := fun a ha h => has_ne hR2.has (hfg.row a ha) (by decide) (h.trans hqr.symm)
              have HGNE := Lib.hid hgne
              clear hgne
              have HG := Lib.hid hG
              have HB2 := Lib.hid hB2
              have HFG := Lib.hid hfg
              have HAP2 := Lib.hid hap2
              have HM2 := Lib.hid hmw2
              have HLO2 := Lib.hid hlo2
              have HST := Lib.hid hst
              have HSM := Lib.hid hsm
              have HSMF := Lib.hid hsmf
              have HGA := Lib.hid hga
              have HQLO := Lib.hid hqlo
              have HQR := Lib.hid hqr
              have HBN2 := Lib.hid hbn2
              have HXF := Lib.hid hxf
              have HCOME := Lib.hid hcome
              have HWT2 := Lib.hid hwt2
              have HWF := Lib.hid hwf
              have hsent : sent ≤ 100 := by omega
              clear hG hB2 hfg hap2 hmw2 hlo2 hst hsm hsmf hga hqlo hqr hbn2 hxf hcome hwt2 hwf hq2 hR2 hW2 hd2 ho hfgb HPA HLO HMW HRN HBN HA hpbw
              go_wp2_with fail
              refine HG.out.mono ?_
              rintro e w3' ⟨Ac, cc, q2, rfl, hfc, hcb, hR3, hrn2, hm3, hqf3⟩
              rw [HQR.out] at hm3
              have hB3 := HB2.out.keep (play_ok d HOK.out) hm3 (fun i hi h => by
                have h1 := HAP2.out i (.inl (h.trans HQR.out.symm))
                rcases hi with hi | hi
                · exact h1.1 hi
                · exact h1.2 hi)
              have hfg3 := HFG.out.keep hm3 (fun a ha h => HGNE.out a ha h)
              have hap3 : ∀ i, q2.fp i → ¬ p2.fp i ∧ ¬ F2 i ∧ w.heap.size ≤ i := fun i hi => by
                rcases hqf3 i hi with h | h
                · exact ⟨(HAP2.out i h).1, (HAP2.out i h).2, HQLO.out i h⟩
                · exact ⟨fun h2 => by have := HB2.out.net.lt i h2; omega, fun h2 => by have := (play_ok d HOK.out).lt _ _ _ i HB2.out.srv h2; omega, Nat.le_trans HM2.out.size h⟩
              have hIN : InRel d rn come wt2 wb l1.tail met p2 F2 w w3' 0 (.slice none 0 0) w3' :=
                ⟨q2, hR3, hrn2.trans HQR.out, hap3, World.ownsRow_nil _ _ _ _, (fun i h => by cases h), Mod.refl _ _⟩
              have hm03 : Mod (fun _ => False) w w3' := Mod.trans HM2.out hm3 (fun i hi h => by have := HQLO.out i (.inl (h.trans HQR.out.symm)); omega)
              have HCNE := Lib.hid (fun a (ha : Ac = some a) (h : a.block = rn) => has_ne hR3.has (hfc.row a ha) (by decide) (h.trans (hrn2.trans HQR.out).symm))
              have HB3 := Lib.hid hB3
              have HFG3 := Lib.hid hfg3
              have HFC := Lib.hid hfc
              have HIN := Lib.hid hIN
              have HM03 := Lib.hid hm03
              clear hB3 hfg3 hfc hIN hm03 hap3 hR3 hrn2 hm3 hqf3 hcb HB2 HFG HAP2 HM2 HG
              go_wp2_with fail
              go_loopw [17, 19, 22, 24] (fun mn ok vw i wr => ∃ (j : Nat) (m : Nat), i = .int .i64 j ∧ mn = .int .i64 m ∧ ok = .bool true ∧ j ≤ come.length ∧ Hid (m = met.length + j) ∧ Hid (InRel d rn come wt2 wb l1.tail met p2 F2 w w3' j vw wr)) (fun _ _ _ i _ => come.length - (intOf i).toNat)
              case atStart => exact ⟨0, met.length, by go_num, rfl, rfl, by omega, Lib.hid rfl, HIN⟩
              case round =>
                obtain ⟨j, m, rfl, rfl, rfl, hj, HMJ, HI⟩ := hrel
                by_cases hlj : j < come.length
                · have j1 : (j : Int) < (come.length : Int) := by omega
                  obtain ⟨q, hR, hqr, hap, hown, hvq, hmi⟩ := HI.out
                  have hm0 : Mod (fun _ => False) w wr := Mod.trans HM03.out hmi (fun i hi h => by
                    subst h; have := (hap q.rn (.inl rfl)).2.2; rw [hqr] at this; omega)
                  have hBr := HB3.out.keep (play_ok d HOK.out) hmi (fun i hi h => by
                    have h1 := hap i (.inl (h.trans hqr.symm))
                    rcases hi with hi | hi
                    · exact h1.1 hi
                    · exact h1.2.1 hi)
                  have hfcr := HFC.out.keep hmi (fun a ha h => HCNE.out a ha h)
                  obtain ⟨vm2, hplr, hF2⟩ := hBr.srv
                  have hso := hplr.own
                  rw [HST.out] at hso
                  have x0 := hplr.box.cell (o := 0) rfl
                  have xa := hplr.abox.cell (o := 0) rfl
                  obtain ⟨Am, cm, rfl, hcm, hmc, _, hmx⟩ := own_cells hso
                  rw [HDM.out] at x0
                  rw [HDB.out, HDN.out.1, HDN.out.2.1, HDN.out.2.2.1] at xa
                  have hmlen : (met ++ come).length = met.length + come.length := by simp
                  have hml : m < (met ++ come).length := by have := HMJ.out; omega
                  have hgetm : (met ++ come)[m] = come[j] := by
                    have := HMJ.out; subst this; rw [List.getElem_append_right (by omega)]; simp
                  rcases hmc with hmc | ⟨gm, om, rfl, hmc⟩
                  · have := sv_len (met ++ come); rw [hmc] at this; simp at this; omega
                  have xm := hmc m _ (sv_get (met ++ come) m hml)
                  rw [hgetm] at xm
                  rcases hfcr.cells with hcc | ⟨gc, oc, rfl, hcc⟩
                  · have := sv_len come; rw [hcc] at this; simp at this; omega
                  have xc := hcc j _ (sv_get come j hlj)
                  have hac := hplr.acells
                  rw [HDN.out.1, HDN.out.2.1] at hac
                  have hsn := asks_snoc d.V come j hlj l1.tail wb met
                  have hstj := play_st d (come.take j) l1.tail wb met
                  have hsmj := HSM.out j hj
                  have hpc := HGA.out.1 come[j] (List.getElem_mem hlj)
                  generalize come[j] = c at *
                  generalize d.V.asks (come.take j) l1.tail wb met = x at *
                  have hxl : x.st.length = m := by rw [hstj, List.length_append, List.length_take, Nat.min_eq_left hj, HMJ.out]
                  obtain ⟨N, hN⟩ : ∃ N, N = (met ++ come).length := ⟨_, rfl⟩
                  rw [← hN] at x0
                  have jm : (m : Int) < (N : Int) := by omega
                  have jmn : m < N := by omega
                  have jm0 : (0 : Int) ≤ (m : Int) := by omega
                  have jj0 : (0 : Int) ≤ (j : Int) := by omega
                  have jmb : m ≤ 1000000 := by omega
                  have hcm2 := come_calls q x.l wt2 x.wb
                  have HR := Lib.hid hR
                  have HQ2 := Lib.hid hqr
                  have HAP := Lib.hid hap
                  have HOW := Lib.hid hown
                  have HVQ := Lib.hid hvq
                  have HMI := Lib.hid hmi
                  have HM0 := Lib.hid hm0
                  have HAC := Lib.hid hac
                  have HSN := Lib.hid hsn
                  have HSJ := Lib.hid hsmj
                  have HXL := Lib.hid hxl
                  have HPC := Lib.hid hpc
                  have HML := Lib.hid hmlen
                  have HNN := Lib.hid hN
                  clear hN
                  have HBR := Lib.hid hBr
                  clear hR hqr hap hown hvq hmi hm0 hac hsn hsmj hxl hpc hmlen hBr hcm2 hstj hgetm hml hmc hcc hfcr hso hplr hcm hmx HI hF2
                  go_wp2_with fail
                  go_quiet (fail)
                  have HSN0 := HSN
                  unfold Srv.back at HSN0
                  by_cases han : an = []
                  · have hst : (d.V.step x.st c) = (c, x.st ++ [c]) := by show d.step x.st c = _; unfold Pl.step; rw [if_pos (by rw [HDN.out.1]; exact han)]
                    rw [hst] at HSN0
                    have haz := HPC.out
                    rw [if_neg (by dsimp only; have := haz.2; omega)] at HSN0
                    have HSN := HSN0
                    have hal0 : an.length = 0 := by rw [han]; rfl
                    rw [hal0] at xa
                    have HMQ := Lib.hid ((Mod.refl (fun _ => False) wr).drewN nq)
                    clear hst HSN0 hal0 han
                    have hRq := HR.out.keep HMQ.out (fun _ _ h => h)
                    have hCM := come_calls q x.l wt2 x.wb (c) (wr.drewN nq) hRq HSJ.out.1 haz.1 haz.2 (by have := HSJ.out.2.2.2; omega)
                    rw [HQ2.out] at hCM
                    have HCM := Lib.hid hCM
                    have hful := str_full (c) haz.2
                    clear hRq hCM
                    go_wp2_with fail
                    refine HCM.out.mono ?_
                    rintro e w4 ⟨Ad, cd, q4, rfl, hfd, hdb, hR4, hrn4, hm4, hqf4⟩
                    rw [HQ2.out] at hm4
                    have hgl4 := goes_len (hd x.l) (c) x.wb
                    have hSS := HSJ.out.2.2.2
                    have hown4 := own_keep (own_keep HOW.out HMQ.out (fun _ _ _ h => h)) hm4 (fun i _ hi h => HVQ.out i hi (.inl (h.trans HQ2.out.symm)))
                    have hm34 : Mod (fun i => i = rn) w3' w4 := Mod.trans (Mod.trans HMI.out HMQ.out (fun _ _ h => h.elim)) hm4 (fun _ _ h => h)
                    have hz4 := hm34.size
                    have hzq := HMQ.out.size
                    have hap4 : ∀ i, q4.fp i → ¬ p2.fp i ∧ ¬ F2 i ∧ w.heap.size ≤ i := fun i hi => by
                      rcases hqf4 i hi with h | h
                      · exact HAP.out i h
                      · have h2 : wr.heap.size ≤ i := by omega
                        exact ⟨fun h3 => by have := HBR.out.net.lt i h3; omega, fun h3 => by have := (play_ok d HOK.out).lt _ _ _ i HBR.out.srv h3; omega, by have := HM0.out.size; omega⟩
                    have hvq4 : ∀ i, u22.ownBlock = some i → ¬ q4.fp i := fun i hi h => by
                      rcases hqf4 i h with h2 | h2
                      · exact HVQ.out i hi h2
                      · have := (HOW.out.lt i hi).2; omega
                    try dsimp only at HSN
                    generalize (goes (hd x.l) (c) x.wb).1 = o4 at *
                    generalize (goes (hd x.l) (c) x.wb).2 = wb4 at *
                    have hxo : x.out.length + o4.length ≤ 10000000 := by omega
                    have HFD := Lib.hid hfd
                    have HO4 := Lib.hid hown4
                    have HR4 := Lib.hid hR4
                    have HRN4 := Lib.hid (hrn4.trans HQ2.out)
                    have HAP4 := Lib.hid hap4
                    have HVQ4 := Lib.hid hvq4
                    have HM34 := Lib.hid hm34
                    clear hfd hown4 hR4 hrn4 hap4 hvq4 hm34 hm4 hqf4 hdb hgl4 hSS hzq
                    go_wp2_with (first
                      | (at_builtin
                         go_must (refine appG (.tmp 169) (.tmp 172) T_str w3'.heap.size u22 x.out.length (sv x.out) HO4.out Ad o4.length cd (sv o4) rfl rfl rfl rfl (by rw [sv_len]; omega) HFD.out.cells (sv_one _) (by omega) (by unfold maxLen; omega) hz4 ?_; intro v5 w5 hown5 hm5 hrow5)
                         rw [← sv_app, ← List.length_append] at hown5
                         have hI5 : InRel d rn come wt2 wb l1.tail met p2 F2 w w3' (j + 1) v5 w5 := ⟨q4, by rw [HSN.out]; exact HR4.out.keep hm5 (fun i hi h => HVQ4.out i h hi), HRN4.out, HAP4.out, by rw [HSN.out]; exact hown5, fun i hi h => by
                           rcases hrow5 i hi with h2 | h2
                           · exact HVQ4.out i h2 h
                           · have := HR4.out.lt i h; omega, Mod.trans HM34.out hm5 (fun i hi h => by have := (HO4.out.lt i h).1; omega)⟩
                         have HI5 := Lib.hid hI5
                         clear hown5 hm5 hrow5 hI5))
                    go_roundw
                    case rel => exact ⟨j + 1, m + 1, by go_num, by go_num, rfl, by omega, Lib.hid (by have := HMJ.out; omega), HI5⟩
                    case measure => simp [intOf]; omega
                  · have hpa : 0 < an.length := List.length_pos_iff.2 han
                    obtain ⟨i0, hi0⟩ : ∃ i0, i0 = m % an.length := ⟨_, rfl⟩
                    have hil : i0 < an.length := by rw [hi0]; exact Nat.mod_lt _ hpa
                    have hii : (m : Int) % (an.length : Int) = (i0 : Int) := by omega
                    have hst : (d.V.step x.st c) = (an[i0], x.st ++ [c]) := by
                      show d.step x.st c = _
                      unfold Pl.step
                      rw [if_neg (by rw [HDN.out.1]; exact han), HXL.out, HDN.out.1, ← hi0]
                      simp [List.getD, hil]
                    rw [hst] at HSN0
                    rcases HAC.out with hac | ⟨ga, oa, rfl, hac⟩
                    · have := sv_len an; rw [hac] at this; simp at this; omega
                    have xan := hac i0 _ (sv_get an i0 hil)
                    have hasz := H2.out.size an[i0] (List.getElem_mem hil)
                    generalize an[i0] = a at *
                    have k0 : (0 : Int) < (an.length : Int) := by omega
                    have k1 : ¬ (an.length : Int) = 0 := by omega
                    have k2 : (0 : Int) ≤ (i0 : Int) := by omega
                    have k3 : (i0 : Int) < (an.length : Int) := by omega
                    obtain ⟨n1, rfl⟩ : ∃ n1, n1 = nq := ⟨_, rfl⟩
                    clear hst hac hi0
                    go_wp2_with fail
                    go_quiet (fail)
                    have HMQ := Lib.hid ((Mod.refl (fun _ => False) wr).drewN (n1 + nq))
                    by_cases ha0 : a.size = 0
                    · obtain rfl := str_none a ha0
                      rw [if_pos (show ByteArray.empty.size = 0 from rfl)] at HSN0
                      have hI5 : InRel d rn come wt2 wb l1.tail met p2 F2 w w3' (j + 1) u22 (wr.drewN (n1 + nq)) := ⟨q, by rw [HSN0.out]; exact HR.out.keep HMQ.out (fun _ _ h => h), HQ2.out, HAP.out, by rw [HSN0.out]; exact own_keep HOW.out HMQ.out (fun _ _ _ h => h), HVQ.out, Mod.trans HMI.out HMQ.out (fun _ _ h => h.elim)⟩
                      have HI5 := Lib.hid hI5
                      clear hI5
                      go_wp2_with fail
                      go_roundw
                      case rel => exact ⟨j + 1, m + 1, by go_num, by go_num, rfl, by omega, Lib.hid (by have := HMJ.out; omega), HI5⟩
                      case measure => simp [intOf]; omega
                    · have haz : a.size ≤ maxLen ∧ 0 < a.size := ⟨hasz, by omega⟩
                      rw [if_neg ha0] at HSN0
                      have HSN := HSN0
                      clear HSN0
                      have hRq := HR.out.keep HMQ.out (fun _ _ h => h)
                      have hCM := come_calls q x.l wt2 x.wb (a) (wr.drewN (n1 + nq)) hRq HSJ.out.1 haz.1 haz.2 (by have := HSJ.out.2.2.2; omega)
                      rw [HQ2.out] at hCM
                      have HCM := Lib.hid hCM
                      have hful := str_full (a) haz.2
                      clear hRq hCM
                      go_wp2_with fail
                      refine HCM.out.mono ?_
                      rintro e w4 ⟨Ad, cd, q4, rfl, hfd, hdb, hR4, hrn4, hm4, hqf4⟩
                      rw [HQ2.out] at hm4
                      have hgl4 := goes_len (hd x.l) (a) x.wb
                      have hSS := HSJ.out.2.2.2
                      have hown4 := own_keep (own_keep HOW.out HMQ.out (fun _ _ _ h => h)) hm4 (fun i _ hi h => HVQ.out i hi (.inl (h.trans HQ2.out.symm)))
                      have hm34 : Mod (fun i => i = rn) w3' w4 := Mod.trans (Mod.trans HMI.out HMQ.out (fun _ _ h => h.elim)) hm4 (fun _ _ h => h)
                      have hz4 := hm34.size
                      have hzq := HMQ.out.size
                      have hap4 : ∀ i, q4.fp i → ¬ p2.fp i ∧ ¬ F2 i ∧ w.heap.size ≤ i := fun i hi => by
                        rcases hqf4 i hi with h | h
                        · exact HAP.out i h
                        · have h2 : wr.heap.size ≤ i := by omega
                          exact ⟨fun h3 => by have := HBR.out.net.lt i h3; omega, fun h3 => by have := (play_ok d HOK.out).lt _ _ _ i HBR.out.srv h3; omega, by have := HM0.out.size; omega⟩
                      have hvq4 : ∀ i, u22.ownBlock = some i → ¬ q4.fp i := fun i hi h => by
                        rcases hqf4 i h with h2 | h2
                        · exact HVQ.out i hi h2
                        · have := (HOW.out.lt i hi).2; omega
                      try dsimp only at HSN
                      generalize (goes (hd x.l) (a) x.wb).1 = o4 at *
                      generalize (goes (hd x.l) (a) x.wb).2 = wb4 at *
                      have hxo : x.out.length + o4.length ≤ 10000000 := by omega
                      have HFD := Lib.hid hfd
                      have HO4 := Lib.hid hown4
                      have HR4 := Lib.hid hR4
                      have HRN4 := Lib.hid (hrn4.trans HQ2.out)
                      have HAP4 := Lib.hid hap4
                      have HVQ4 := Lib.hid hvq4
                      have HM34 := Lib.hid hm34
                      clear hfd hown4 hR4 hrn4 hap4 hvq4 hm34 hm4 hqf4 hdb hgl4 hSS hzq
                      go_wp2_with (first
                        | (at_builtin
                           go_must (refine appG (.tmp 169) (.tmp 172) T_str w3'.heap.size u22 x.out.length (sv x.out) HO4.out Ad o4.length cd (sv o4) rfl rfl rfl rfl (by rw [sv_len]; omega) HFD.out.cells (sv_one _) (by omega) (by unfold maxLen; omega) hz4 ?_; intro v5 w5 hown5 hm5 hrow5)
                           rw [← sv_app, ← List.length_append] at hown5
                           have hI5 : InRel d rn come wt2 wb l1.tail met p2 F2 w w3' (j + 1) v5 w5 := ⟨q4, by rw [HSN.out]; exact HR4.out.keep hm5 (fun i hi h => HVQ4.out i h hi), HRN4.out, HAP4.out, by rw [HSN.out]; exact hown5, fun i hi h => by
                             rcases hrow5 i hi with h2 | h2
                             · exact HVQ4.out i h2 h
                             · have := HR4.out.lt i h; omega, Mod.trans HM34.out hm5 (fun i hi h => by have := (HO4.out.lt i h).1; omega)⟩
                           have HI5 := Lib.hid hI5
                           clear hown5 hm5 hrow5 hI5))
                      go_roundw
                      case rel => exact ⟨j + 1, m + 1, by go_num, by go_num, rfl, by omega, Lib.hid (by have := HMJ.out; omega), HI5⟩
                      case measure => simp [intOf]; omega
                · have hjl : j = come.length := by omega
                  have j1 : ¬ (j : Int) < (come.length : Int) := by omega
                  obtain ⟨q, hR, hqr, hap, hown, hvq, hmi⟩ := HI.out
                  rw [hjl, List.take_length, HXF.out] at hR hown
                  have hm0 : Mod (fun _ => False) w wr := Mod.trans HM03.out hmi (fun i hi h => by
                    subst h; have := (hap q.rn (.inl rfl)).2.2; rw [hqr] at this; omega)
                  have hBr := HB3.out.keep (play_ok d HOK.out) hmi (fun i hi h => by
                    have h1 := hap i (.inl (h.trans hqr.symm))
                    rcases hi with hi | hi
                    · exact h1.1 hi
                    · exact h1.2.1 hi)
                  have hgr := HFG3.out.keep hmi (fun a ha h => HGNE.out a ha h)
                  obtain ⟨Aw, cw, rfl, hwr, hwb⟩ := own_frames hown
                  obtain ⟨vm2, hplr, hF2⟩ := hBr.srv
                  have x0 := hplr.box.cell (o := 0) rfl
                  obtain ⟨Am, cm, rfl, _, _, _, _⟩ := own_cells hplr.own
                  rw [HDM.out] at x0
                  have hms : m = xf.st.length := by rw [HST.out, List.length_append, HMJ.out, hjl]
                  rw [← hms] at x0
                  have x1 := hR.has.cell (o := 0) rfl
                  rw [hqr] at x1
                  have hS := fun n => sent_calls (wr.drewN n) (hBr.net.drewN n)
                  have hL := fun n => left_calls (wr.drewN n) (hBr.net.drewN n)
                  rw [HBN2.out] at hS hL
                  have hQ := same_quiet hgr hwr
                  have hR2 : ∀ n, PlaysRel d bn rn (k + 1) xf.st (sent + 1) w (wr.drewN n) := fun n => by
                    refine ⟨p2, q, F2, xf.l, wt2, xf.wb, PlaysAt.keep HOK.out (i := k + 1) (S := fun _ => False) ⟨hBr, hR, fun i hi => ⟨(hap i hi).1, (hap i hi).2.1⟩, ?_, ?_, ?_, ?_⟩ ((Mod.refl (fun _ => False) wr).drewN n) (fun _ _ h => h), HBN2.out, hqr, fun i hi => ?_, hm0.drewN n⟩
                    · have h1 := HSMF.out
                      have h2 := congrArg List.length HST.out
                      rw [List.length_append] at h2
                      exact ⟨h1.1, HGA.out.2, h1.2.1, by omega, by omega, by show xf.st.length ≤ _; omega⟩
                    · have h2 := congrArg List.length HST.out
                      rw [List.length_append] at h2
                      omega
                    · have h1 := HSMF.out.2.2.2
                      have h2 := congrArg List.length HST.out
                      rw [List.length_append] at h2
                      omega
                    · omega
                    · rcases hi with hi | hi
                      · exact HLO2.out i hi
                      · exact (hap i hi).2.2
                  have HS := Lib.hid hS
                  have HL := Lib.hid hL
                  have HQ := Lib.hid hQ
                  have HR2 := Lib.hid hR2
                  have HMS := Lib.hid hms
                  clear hS hL hQ hR2 hms hjl hR hqr hap hown hvq hmi hm0 hBr hgr hwr hwb hplr hF2 HI
                  go_wp2_with fail
                  go_quiet (first
                    | (go_at_call 14; exact Calls.quiet_of (HQ.out _))
                    | (go_at_call 15; exact Calls.quiet_of_same (HS.out _))
                    | (go_at_call 16; exact Calls.quiet_of_same (HL.out _)))
                  go_wp2_with fail
                  go_roundw
                  case rel => exact ⟨k + 1, xf.st, sent + 1, by go_num, by rw [← HMS.out], by go_num, by first | rfl | simp, by omega, by omega, HR2.out _⟩
                  case measure => simp [intOf]; omega
          · obtain ⟨p1, q1, F1, l1, wt, wb, hPA, hbn, hrn, hlow, hmw⟩ := HR.out
            have HMW := Lib.hid hmw
            clear hPA hbn hrn hlow hmw HR HREL
            by_cases hlt : k < fr.length
            · have i1 : (k : Int) < (fr.length : Int) := by omega
              have i2 : ¬ (k : Int) < 100 := by omega
              clear hin
              go_wp2_with fail
              go_ret
              exact ⟨rfl, HMW.out.below (fun _ _ h => h)⟩
            · have i1 : ¬ (k : Int) < (fr.length : Int) := by omega
              clear hin
              go_wp2_with fail
              go_ret
              exact ⟨rfl, HMW.out.below (fun _ _ h => h)⟩
end Net
end Go.Proofs.Ytocpifoimoaibaa
