/- Joined texts: ObjEt. -/
import Derived.Test.YtenamjldkaggcaaGreatDoorJ28
import Derived.Test.YtenamjldkaggcaaGreatDoorJ24
import Derived.Test.YtenamjldkaggcaaGreatDoorJ17
/- The walks of object's TakeEntry, the reference's Entry, TakeEntry; both agree. -/
namespace Go.Proofs.YtenamjldkaggcaaGreatDoor
set_option linter.unusedVariables false
set_option linter.unusedSimpArgs false
open Go.RowKit K Wire
namespace Obj

def ent0 : Ent := ⟨⟨#[]⟩, 0, ⟨#[]⟩, 0⟩
def rdKind (name : ByteArray) (L : List UInt8) : Int × RS := tInt L 1 2 ((⟨[], false, 0⟩ : RS).ask (nameOk name))
def rdEId (name : ByteArray) (L : List UInt8) : List UInt8 × RS := tId L (rdKind name L).2
def rdESize (name : ByteArray) (L : List UInt8) : Int × RS := tInt L (lowK (rdKind name L).1) (highK (rdKind name L).1) (rdEId name L).2
def rdEnt (name : ByteArray) (L : List UInt8) : Ent := ⟨name, (rdKind name L).1, ⟨(rdEId name L).1.toArray⟩, (rdESize name L).1⟩
def okEntry (name : ByteArray) (L : List UInt8) : Bool := wholeB L (rdESize name L).2
def outEntry (name : ByteArray) (L : List UInt8) : Ent := if okEntry name L = true then rdEnt name L else ent0
def gKind (L : List UInt8) : Int × RR := gInt L ⟨false, 0⟩
def gEId (L : List UInt8) : List UInt8 × RR := gId L (gKind L).2
def gESize (L : List UInt8) : Int × RR := gInt L (gEId L).2
def gEnt (name : ByteArray) (L : List UInt8) : Ent := ⟨name, (gKind L).1, ⟨(gEId L).1.toArray⟩, (gESize L).1⟩
def gokEntry (name : ByteArray) (L : List UInt8) : Bool := gEnds L (gESize L).2 && rightEntry (gEnt name L)
def goutEntry (name : ByteArray) (L : List UInt8) : Ent := if gokEntry name L = true then gEnt name L else ent0

theorem ent_parts {E : Ent} (h : rightEntry E = true) : nameOk E.name = true ∧ E.id.data.toList.length = 32 ∧ (1 ≤ E.kind ∧ E.kind ≤ 2) ∧ inR E.size (lowK E.kind) (highK E.kind) = true := by
  simp only [rightEntry, Bool.and_eq_true, decide_eq_true_eq] at h
  obtain ⟨⟨⟨h1, h2⟩, h3⟩, h4⟩ := h
  simp only [inR, Bool.and_eq_true, decide_eq_true_eq] at h3
  exact ⟨h1, by rw [← h2]; simp, h3, h4⟩
theorem ent_size {E : Ent} (h : inR E.size (lowK E.kind) (highK E.kind) = true) : -10 ≤ E.size ∧ E.size ≤ 262144 := by
  simp only [inR, Bool.and_eq_true, decide_eq_true_eq] at h
  have := lowK_in E.kind
  have := highK_in E.kind
  omega
theorem entry_sound (name : ByteArray) (L : List UInt8) (h : okEntry name L = true) : L = entB (rdEnt name L) ∧ rightEntry (rdEnt name L) = true := by
  unfold okEntry wholeB at h
  rw [Bool.and_eq_true, decide_eq_true_eq] at h
  obtain ⟨hb, hl⟩ := h
  have hb9 : (rdESize name L).2.bad = false := by simpa using hb
  have hp0 : (0 : Int) ≤ ((⟨[], false, 0⟩ : RS).ask (nameOk name)).p := by show (0 : Int) ≤ 0; omega
  have hp1 := tInt_p L 1 2 _ hp0
  obtain ⟨a1, a2, a3⟩ := tInt_got L _ _ (rdEId name L).2 hb9
  obtain ⟨b1, b2, b3⟩ := tId_got L (rdKind name L).2 hp1 a1
  obtain ⟨c1, c2, c3⟩ := tInt_got L 1 2 _ b1
  obtain ⟨_, d2⟩ := ask_bad c1
  constructor
  · refine hl.symm.trans ?_
    have g1 : (rdESize name L).2.l = (rdEId name L).2.l ++ enc (rdEnt name L).size := a2
    have g2 : (rdEId name L).2.l = (rdKind name L).2.l ++ (rdEnt name L).id.data.toList := b2
    have g3 : (rdKind name L).2.l = [] ++ enc (rdEnt name L).kind := c2
    rw [g1, g2, g3]
    simp [entB]
  · unfold rightEntry
    rw [show nameOk (rdEnt name L).name = true from d2, show inR (rdEnt name L).kind 1 2 = true from c3, show inR (rdEnt name L).size (lowK (rdEnt name L).kind) (highK (rdEnt name L).kind) = true from a3]
    have : (rdEnt name L).id.size = 32 := b3
    rw [this]; rfl
theorem entry_complete (E : Ent) (h : rightEntry E = true) : okEntry E.name (entB E) = true ∧ outEntry E.name (entB E) = E := by
  obtain ⟨h1, h2, h3, h4⟩ := ent_parts h
  have h5 := ent_size h4
  obtain ⟨L, hL⟩ : ∃ L, L = entB E := ⟨_, rfl⟩
  have e0 : (⟨[], false, 0⟩ : RS).ask (nameOk E.name) = pre [] := by rw [h1]; rfl
  have s1 : tInt L 1 2 (pre []) = (E.kind, pre ([] ++ enc E.kind)) := by
    rw [hL, show entB E = [] ++ (enc E.kind ++ (E.id.data.toList ++ enc E.size)) from rfl]
    exact tInt_pre _ _ _ _ _ (by unfold In64; omega) (by simp [inR]; omega)
  have s2 : tId L (pre ([] ++ enc E.kind)) = (E.id.data.toList, pre ([] ++ enc E.kind ++ E.id.data.toList)) := by
    rw [hL, show entB E = ([] ++ enc E.kind) ++ (E.id.data.toList ++ enc E.size) from rfl]
    exact tId_pre _ _ _ h2
  have s3 : tInt L (lowK E.kind) (highK E.kind) (pre ([] ++ enc E.kind ++ E.id.data.toList)) = (E.size, pre ([] ++ enc E.kind ++ E.id.data.toList ++ enc E.size)) := by
    rw [hL, show entB E = ([] ++ enc E.kind ++ E.id.data.toList) ++ (enc E.size ++ []) by simp [entB]]
    exact tInt_pre _ _ _ _ _ (by unfold In64; omega) h4
  have r1 : rdKind E.name L = (E.kind, pre ([] ++ enc E.kind)) := by unfold rdKind; rw [e0]; exact s1
  have r2 : rdEId E.name L = (E.id.data.toList, pre ([] ++ enc E.kind ++ E.id.data.toList)) := by unfold rdEId; rw [r1]; exact s2
  have eL : [] ++ enc E.kind ++ E.id.data.toList ++ enc E.size = L := by rw [hL]; simp [entB]
  rw [eL] at s3
  have r3 : rdESize E.name L = (E.size, pre L) := by unfold rdESize; rw [r1, r2]; exact s3
  have r5 : rdEnt E.name L = E := by unfold rdEnt; rw [r1, r2, r3]
  rw [← hL]
  have hok : okEntry E.name L = true := by unfold okEntry; rw [r3]; simp [wholeB, pre]
  exact ⟨hok, by unfold outEntry; rw [if_pos hok, r5]⟩
theorem gentry_sound (name : ByteArray) (L : List UInt8) (h : gokEntry name L = true) : L = entB (gEnt name L) ∧ rightEntry (gEnt name L) = true := by
  unfold gokEntry at h
  rw [Bool.and_eq_true] at h
  refine ⟨?_, h.2⟩
  have hb : (gESize L).2.bad = false := by
    have := h.1; unfold gEnds at this
    simp only [Bool.and_eq_true, Bool.not_eq_true'] at this
    exact this.1
  obtain ⟨a1, a2⟩ := gInt_got L (gEId L).2 hb
  obtain ⟨b1, b2⟩ := gId_got L (gKind L).2 a1
  obtain ⟨c1, c2⟩ := gInt_got L ⟨false, 0⟩ b1
  have h9 := a2 _ (b2 _ (c2 [] ⟨rfl, L, rfl⟩))
  refine (gEnds_got h.1 (fun _ => h9)).trans ?_
  simp [entB, gEnt, gKind, gEId, gESize]
theorem gentry_complete (E : Ent) (h : rightEntry E = true) : gokEntry E.name (entB E) = true ∧ goutEntry E.name (entB E) = E := by
  obtain ⟨h1, h2, h3, h4⟩ := ent_parts h
  have h5 := ent_size h4
  obtain ⟨L, hL⟩ : ∃ L, L = entB E := ⟨_, rfl⟩
  have s1 : gInt L (gpre []) = (E.kind, gpre ([] ++ enc E.kind)) := by
    rw [hL, show entB E = [] ++ (enc E.kind ++ (E.id.data.toList ++ enc E.size)) from rfl]
    exact gInt_pre _ _ _ (by unfold In64; omega)
  have s2 : gId L (gpre ([] ++ enc E.kind)) = (E.id.data.toList, gpre ([] ++ enc E.kind ++ E.id.data.toList)) := by
    rw [hL, show entB E = ([] ++ enc E.kind) ++ (E.id.data.toList ++ enc E.size) from rfl]
    exact gId_pre _ _ _ h2
  have s3 : gInt L (gpre ([] ++ enc E.kind ++ E.id.data.toList)) = (E.size, gpre ([] ++ enc E.kind ++ E.id.data.toList ++ enc E.size)) := by
    rw [hL, show entB E = ([] ++ enc E.kind ++ E.id.data.toList) ++ (enc E.size ++ []) by simp [entB]]
    exact gInt_pre _ _ _ (by unfold In64; omega)
  have r1 : gKind L = (E.kind, gpre ([] ++ enc E.kind)) := s1
  have r2 : gEId L = (E.id.data.toList, gpre ([] ++ enc E.kind ++ E.id.data.toList)) := by unfold gEId; rw [r1]; exact s2
  have eL : [] ++ enc E.kind ++ E.id.data.toList ++ enc E.size = L := by rw [hL]; simp [entB]
  rw [eL] at s3
  have r3 : gESize L = (E.size, gpre L) := by unfold gESize; rw [r2]; exact s3
  have r5 : gEnt E.name L = E := by unfold gEnt; rw [r1, r2, r3]
  rw [← hL]
  have hok : gokEntry E.name L = true := by unfold gokEntry; rw [r3, r5, h]; simp [gEnds, gpre]
  exact ⟨hok, by unfold goutEntry; rw [if_pos hok, r5]⟩
theorem rd_name (name : ByteArray) (L : List UInt8) : (rdEnt name L).name = name ∧ (gEnt name L).name = name := ⟨rfl, rfl⟩
theorem entries_agree (name : ByteArray) (L : List UInt8) : okEntry name L = gokEntry name L ∧ outEntry name L = goutEntry name L := by
  cases h : okEntry name L with
  | true =>
    obtain ⟨h1, h2⟩ := entry_sound name L h
    obtain ⟨h3, h4⟩ := entry_complete _ h2
    obtain ⟨h5, h6⟩ := gentry_complete _ h2
    rw [← h1, (rd_name name L).1] at h4 h5 h6
    exact ⟨h5.symm, h4.trans h6.symm⟩
  | false =>
    cases h' : gokEntry name L with
    | true =>
      obtain ⟨h1, h2⟩ := gentry_sound name L h'
      have h3 := (entry_complete _ h2).1
      rw [← h1, (rd_name name L).2, h] at h3; cases h3
    | false => exact ⟨rfl, by unfold outEntry goutEntry; rw [h, h', if_neg (by decide), if_neg (by decide)]⟩

/-! walks -/
theorem rd_new (s : ByteArray) (w w1 : World) (c1 : Nat) (hM1 : Mod (fun _ => False) w w1) (hC1 : ∀ j u, (bv s.data.toList)[j]? = some u → w1.cell? ⟨w.heap.size, j, none⟩ = some u) (hN1 : s.size ≤ c1) (hx1 : c1 ≤ maxLen) (hg1 : w.heap.size < w1.heap.size)
    (hrow : ∃ cur fr, w1.heap[w.heap.size]? = some (.cells cur 5 fr) ∧ fr ≠ (0, 0)) :
    Rd w w1.heap.size s.data.toList ⟨[], false, 0⟩ (w1.alloc (.cells #[.slice none 0 0, .bool false, .slice (some ⟨w.heap.size, 0, none⟩) s.size c1, .int .i64 0] 83)) := by
  have hlen : s.data.toList.length = s.size := by simp
  have hmA : Mod (fun _ => False) w1 (w1.alloc (.cells #[.slice none 0 0, .bool false, .slice (some ⟨w.heap.size, 0, none⟩) s.size c1, .int .i64 0] 83)) := (Mod.refl (fun _ => False) w1).alloc _
  refine ⟨⟨some ⟨w.heap.size, 0, none⟩, c1, .slice none 0 0, ⟨⟨?_, World.ownsRow_nil _ _ _ _, ?_⟩, ?_, .inr ⟨_, _, rfl⟩, by omega, hx1, ?_, Int.le_refl _, by show (0 : Int) ≤ _; omega⟩⟩, by omega, hM1.alloc _⟩
  · rw [hlen]; exact Has.new w1 _ _
  · simp only [size_alloc]; omega
  · exact .inr ⟨_, 0, rfl, fun j u hj => by rw [Nat.zero_add, cell_new_old _ _ _ hg1]; exact hC1 j u hj⟩
  · intro a ha
    obtain rfl := Option.some.inj ha
    obtain ⟨cur, fr, hr, hf⟩ := hrow
    exact ⟨cur, fr, (hmA.block _ hg1 (fun h => h)).trans hr, hf⟩
theorem rg_new (s : ByteArray) (w w1 : World) (c1 : Nat) (hM1 : Mod (fun _ => False) w w1) (hC1 : ∀ j u, (bv s.data.toList)[j]? = some u → w1.cell? ⟨w.heap.size, j, none⟩ = some u) (hN1 : s.size ≤ c1) (hx1 : c1 ≤ maxLen) (hg1 : w.heap.size < w1.heap.size)
    (hrow : ∃ cur fr, w1.heap[w.heap.size]? = some (.cells cur 5 fr) ∧ fr ≠ (0, 0)) :
    Rg w w1.heap.size s.data.toList ⟨false, 0⟩ (w1.alloc (.cells #[.slice (some ⟨w.heap.size, 0, none⟩) s.size c1, .int .i64 0, .bool false] 91)) := by
  have hlen : s.data.toList.length = s.size := by simp
  have hmA : Mod (fun _ => False) w1 (w1.alloc (.cells #[.slice (some ⟨w.heap.size, 0, none⟩) s.size c1, .int .i64 0, .bool false] 91)) := (Mod.refl (fun _ => False) w1).alloc _
  refine Rg.mk' (A := some ⟨w.heap.size, 0, none⟩) (c := c1) ⟨?_, .inr ⟨_, 0, rfl, fun j u hj => by rw [Nat.zero_add, cell_new_old _ _ _ hg1]; exact hC1 j u hj⟩, .inr ⟨_, _, rfl⟩, by omega, hx1, ?_, Int.le_refl _, by show (0 : Int) ≤ _; omega⟩ (by omega) (hM1.alloc _) ?_
  · rw [hlen]; exact Has.new w1 _ _
  · intro a ha; obtain rfl := Option.some.inj ha; show w.heap.size ≠ w1.heap.size; omega
  · intro a ha
    obtain rfl := Option.some.inj ha
    obtain ⟨cur, fr, hr, hf⟩ := hrow
    exact ⟨⟨cur, fr, (hmA.block _ hg1 (fun h => h)).trans hr⟩, Nat.le_refl _⟩
theorem mod_set4 {S : Nat → Prop} {a w : World} {g : Nat} (h : Mod S a w) (hg : S g ∨ a.heap.size ≤ g) (u0 u1 u2 u3 : Value) : Mod S a ((((w.setCell ⟨g, 0, none⟩ u0).setCell ⟨g, 1, none⟩ u1).setCell ⟨g, 2, none⟩ u2).setCell ⟨g, 3, none⟩ u3) :=
  (((h.setCell (p := ⟨g, 0, none⟩) hg _).setCell (p := ⟨g, 1, none⟩) hg _).setCell (p := ⟨g, 2, none⟩) hg _).setCell (p := ⟨g, 3, none⟩) hg _

set_option maxRecDepth 100000 in
set_option maxHeartbeats 2000000 in
theorem takeEntry_calls (name s : ByteArray) (w : World) (hn : name.size ≤ 100000000) (hs : s.size ≤ 100000000) :
    Calls Tryz.prog 37 #[.string name, .string s] w fun e w' => e = .returned (.tuple #[.agg (entC (outEntry name s.data.toList)), errV (okEntry name s.data.toList)]) ∧ Mod (fun _ => False) w w' := by
  have hL : s.data.toList.length ≤ 100000000 := by simpa using hs
  have hR := Has.new w [.string ⟨#[]⟩, .int .i64 0, .string ⟨#[]⟩, .int .i64 0] 60
  have hM0 := (Mod.refl (fun _ => False) w).alloc (.cells #[.string ⟨#[]⟩, .int .i64 0, .string ⟨#[]⟩, .int .i64 0] 60)
  obtain ⟨c1, w1, hE, hM1, hC1, hN1, hx1, hg1, hf1, hrow⟩ := to_bytes s (w.alloc (.cells #[.string ⟨#[]⟩, .int .i64 0, .string ⟨#[]⟩, .int .i64 0] 60)) (by unfold maxLen; omega)
  have hrd := rd_new s _ w1 c1 hM1 hC1 hN1 hx1 hg1 hrow
  rw [size_alloc] at hE hrd
  obtain ⟨OC, hOC⟩ : ∃ OC, outEntry name s.data.toList = OC := ⟨_, rfl⟩
  rw [hOC]
  have HOC1 : Hid (okEntry name s.data.toList = true → OC = rdEnt name s.data.toList) := Lib.hid (fun h => by rw [← hOC]; unfold outEntry; rw [if_pos h])
  have HOC2 : Hid (okEntry name s.data.toList = false → OC = ent0) := Lib.hid (fun h => by rw [← hOC]; unfold outEntry; rw [if_neg (by rw [h]; decide)])
  generalize s.data.toList = L at *
  have hsz : w.heap.size + 1 = (w.alloc (.cells #[.string ⟨#[]⟩, .int .i64 0, .string ⟨#[]⟩, .int .i64 0] 60)).heap.size := by simp
  obtain ⟨w0, hw0⟩ : ∃ w0, w.alloc (.cells #[.string ⟨#[]⟩, .int .i64 0, .string ⟨#[]⟩, .int .i64 0] 60) = w0 := ⟨_, rfl⟩
  rw [hw0] at hR hM0 hrd hsz hM1
  have HR0 := Lib.hid hR
  have HM0 := Lib.hid hM0
  have HSZ := Lib.hid hsz
  have HRD := Lib.hid hrd
  have HN := Lib.hid (fun w' => isName_calls name w' hn)
  have HLM := Lib.hid (fun k w' => limits_calls k w')
  clear hOC hR hM0 hsz hrd hM1 hC1 hN1 hx1 hf1 hrow hw0
  go_enter Tryz.func37, Tryz.ntmps37
  go_wp2_with fail
  obtain ⟨b, hb⟩ : ∃ b, w1.heap.size = b := ⟨_, rfl⟩
  rw [hb] at HRD
  rw [hb]
  generalize w1.alloc (.cells #[.slice none 0 0, .bool false, .slice (some ⟨w.heap.size + 1, 0, none⟩) s.size c1, .int .i64 0] 83) = w2 at *
  clear hE hg1 hb
  refine region_mS (SR b (.slice none 0 0) w2) (by kernel_rfl) ?_
  simp only [List.length_cons, List.length_nil, List.replicate]
  refine take0S (v := ?v1) (oi := ?o1) 0 ?hi1 (by kernel_rfl) (by kernel_rfl) (by kernel_rfl) ?hq1 ?hy1 ?_
  case hi1 => (simp only [List.getElem?_toArray, List.getElem?_cons_zero, List.getElem?_cons_succ]; rfl)
  case hq1 => exact fun _ _ _ h => h
  case hy1 => first | (refine ry_notS ?_; rfl) | (refine ry_runS (by rfl) (fun w' hw' => ?_); go_simp; try rfl)
  simp only [Act.put, List.setIfInBounds_toArray, List.set_cons_zero, List.set_cons_succ]
  refine take0S (v := ?v2) (oi := ?o2) 1 ?hi2 (by kernel_rfl) (by kernel_rfl) (by kernel_rfl) ?hq2 ?hy2 ?_
  case hi2 => (simp only [List.getElem?_toArray, List.getElem?_cons_zero, List.getElem?_cons_succ]; rfl)
  case hq2 => exact fun _ _ _ h => h
  case hy2 => first | (refine ry_notS ?_; rfl) | (refine ry_runS (by rfl) (fun w' hw' => ?_); go_simp; try rfl)
  simp only [Act.put, List.setIfInBounds_toArray, List.set_cons_zero, List.set_cons_succ]
  refine take0S (v := ?v3) (oi := ?o3) 2 ?hi3 (by kernel_rfl) (by kernel_rfl) (by kernel_rfl) ?hq3 ?hy3 ?_
  case hi3 => (simp only [List.getElem?_toArray, List.getElem?_cons_zero, List.getElem?_cons_succ]; rfl)
  case hq3 => exact fun _ _ _ h => h
  case hy3 => first | (refine ry_notS ?_; rfl) | (refine ry_runS (by rfl) (fun w' hw' => ?_); go_simp; try rfl)
  simp only [Act.put, List.setIfInBounds_toArray, List.set_cons_zero, List.set_cons_succ]
  refine take0S (v := ?v4) (oi := ?o4) 3 ?hi4 (by kernel_rfl) (by kernel_rfl) (by kernel_rfl) ?hq4 ?hy4 ?_
  case hi4 => (simp only [List.getElem?_toArray, List.getElem?_cons_zero, List.getElem?_cons_succ]; rfl)
  case hq4 => exact fun _ _ _ h => h
  case hy4 => first | (refine ry_notS ?_; rfl) | (refine ry_runS (by rfl) (fun w' hw' => ?_); go_simp; try rfl)
  simp only [Act.put, List.setIfInBounds_toArray, List.set_cons_zero, List.set_cons_succ]
  refine step0S (o := ?o5) 4 (by kernel_rfl) ?hi5 ?hw5 ?_
  case hi5 => (simp only [List.getElem?_toArray, List.getElem?_cons_zero, List.getElem?_cons_succ]; rfl)
  case hw5 => rfl
  go_simp
  refine (HN.out _).mono ?_
  rintro e w3 ⟨rfl, hm3⟩
  refine ⟨.inl (hm3.mono fun _ _ h => h.elim), ?_⟩
  refine step0S (o := ?o6) 5 (by kernel_rfl) ?hi6 ?hw6 ?_
  case hi6 => (simp only [List.getElem?_toArray, List.getElem?_cons_zero, List.getElem?_cons_succ]; rfl)
  case hw6 => rfl
  go_simp
  refine (ask_rd (HRD.out.newer (Mod.of_drew_l hm3)) _).mono ?_
  rintro e w4 ⟨rfl, h4, hm4⟩
  refine ⟨.inl (ModB.inS (ModB.of0 (Mod.of_drew_l hm3)) hm4), ?_⟩
  refine wpAnyM_done (by kernel_rfl) ?_
  have H4 : Hid (Rd w0 b L ((⟨[], false, 0⟩ : RS).ask (nameOk name)) w4) := Lib.hid h4
  clear h4 hm3 hm4 HN HRD
  go_wp2_with fail
  refine (int_rd H4.out 1 2 (fun _ => by simp [RS.ask]) hL).mono ?_
  rintro e w5 ⟨rfl, h5, _⟩
  have e1 : (tInt L 1 2 ((⟨[], false, 0⟩ : RS).ask (nameOk name))).1 = (rdKind name L).1 := rfl
  have e2 : (tInt L 1 2 ((⟨[], false, 0⟩ : RS).ask (nameOk name))).2 = (rdKind name L).2 := rfl
  have hl5 := tInt_l L 1 2 ((⟨[], false, 0⟩ : RS).ask (nameOk name))
  rw [e1]
  rw [e2] at h5 hl5
  have HL5 : Hid ((rdKind name L).2.bad = false → (rdKind name L).2.l.length ≤ 10) := Lib.hid (fun h => by have := (hl5 h).2.1; simp [RS.ask] at this; omega)
  have H5 := Lib.hid h5
  clear h5 hl5 e1 e2 H4
  go_wp2_with fail
  refine (id_rd H5.out (fun h => by have := HL5.out h; omega) hL).mono ?_
  rintro e w6 ⟨rfl, h6, _⟩
  have e1 : (⟨(tId L (rdKind name L).2).1.toArray⟩ : ByteArray) = (rdEnt name L).id := rfl
  have e2 : (tId L (rdKind name L).2).2 = (rdEId name L).2 := rfl
  have hl6 := tId_l L (rdKind name L).2
  rw [e1]
  rw [e2] at h6 hl6
  have HL6 : Hid ((rdEId name L).2.bad = false → (rdEId name L).2.l.length ≤ 42) := Lib.hid (fun h => by have h1 := hl6 h; have := HL5.out h1.1; omega)
  have hgb : w6.heap.size ≠ b := by
    obtain ⟨cs, hcs⟩ := h6.has
    have := hcs.lt; omega
  have HGB := Lib.hid hgb
  have HGZ := Lib.hid h6.mod.size
  have H6 := Lib.hid h6
  clear h6 hl6 e1 e2 H5 hgb
  go_wp2_with fail
  refine (HLM.out _ _).mono ?_
  rintro e w7 ⟨rfl, hm7⟩
  have H7 := Lib.hid ((H6.out.alloc (.cells #[.string name, .int .i64 (rdKind name L).1, .string (rdEnt name L).id, .int .i64 0] 60)).newer hm7)
  have HG7 := Lib.hid ((Has.new w6 [.string name, .int .i64 (rdKind name L).1, .string (rdEnt name L).id, .int .i64 0] 60).keep hm7 (fun h => h))
  clear hm7 H6
  go_wp2_with fail
  refine (int_rd H7.out (lowK (rdKind name L).1) (highK (rdKind name L).1) (fun h => by have := HL6.out h; omega) hL).mono ?_
  rintro e w8 ⟨rfl, h8, hm8⟩
  have e1 : (tInt L (lowK (rdKind name L).1) (highK (rdKind name L).1) (rdEId name L).2).1 = (rdEnt name L).size := rfl
  have e2 : (tInt L (lowK (rdKind name L).1) (highK (rdKind name L).1) (rdEId name L).2).2 = (rdESize name L).2 := rfl
  rw [e1]
  rw [e2] at h8
  have hG8 := hm8.has HG7.out (by decide) HGB.out
  have g3 := hG8.cell (o := 3) rfl
  have f3 := hG8.frozen 3
  have h9 := h8.store hG8 (by decide) HGB.out HGZ.out 3 (.int .i64 (rdEnt name L).size)
  have HG9 := Lib.hid (hG8.set 3 (.int .i64 (rdEnt name L).size))
  have hW := whole_rd h9
  rw [show wholeB L (rdESize name L).2 = okEntry name L from rfl] at hW
  have HW := Lib.hid hW
  have HM9 := Lib.hid h9.mod
  have EK := Lib.hid (show (rdEnt name L).kind = (rdKind name L).1 from rfl)
  have EN := Lib.hid (show (rdEnt name L).name = name from rfl)
  clear h8 hm8 e1 e2 hG8 h9 hW H7 HG7
  generalize rdEnt name L = RE at *
  generalize (rdKind name L).1 = kk at *
  go_wp2_with fail
  cases hk : okEntry name L with
  | true =>
    have HOK := Lib.hid hk
    rw [hk] at HW
    clear hk
    refine HW.out.mono ?_
    rintro e wa ⟨rfl, hma⟩
    have hGa := HG9.out.keep hma (fun h => h)
    have z0 := hGa.cell (o := 0) rfl
    have z1 := hGa.cell (o := 1) rfl
    have z2 := hGa.cell (o := 2) rfl
    have z3 := hGa.cell (o := 3) rfl
    have hMa := Mod.trans HM9.out hma (fun _ _ h => h)
    have hRa := HR0.out.keep hMa (fun h => h)
    have k0 := hRa.frozen 0
    have k1 := hRa.frozen 1
    have k2 := hRa.frozen 2
    have k3 := hRa.frozen 3
    have q0 := hRa.cell (o := 0) rfl
    have q1 := hRa.cell (o := 1) rfl
    have q2 := hRa.cell (o := 2) rfl
    have q3 := hRa.cell (o := 3) rfl
    have HMa := Lib.hid (Mod.trans HM0.out hMa (fun _ _ h => h))
    clear hma hMa hRa hGa
    go_wp2_with fail
    refine bodyPost_ret (v := .tuple #[.agg #[.string name, .int .i64 kk, .string RE.id, .int .i64 RE.size], .int .i64 0]) (by simp [results, Tryz.results37, go_sem, q0, q1, q2, q3]) rfl ⟨by rw [HOC1.out HOK.out, HOK.out, ← EK.out, ← EN.out]; rfl, ?_⟩
    exact mod_set4 HMa.out (.inr (Nat.le_refl _)) _ _ _ _
  | false =>
    have HOK := Lib.hid hk
    rw [hk] at HW
    clear hk
    refine HW.out.mono ?_
    rintro e wa ⟨rfl, hma⟩
    have hMa := Mod.trans HM9.out hma (fun _ _ h => h)
    have hRa := HR0.out.keep hMa (fun h => h)
    have k0 := hRa.frozen 0
    have k1 := hRa.frozen 1
    have k2 := hRa.frozen 2
    have k3 := hRa.frozen 3
    have q0 := hRa.cell (o := 0) rfl
    have q1 := hRa.cell (o := 1) rfl
    have q2 := hRa.cell (o := 2) rfl
    have q3 := hRa.cell (o := 3) rfl
    have HMa := Lib.hid (Mod.trans HM0.out hMa (fun _ _ h => h))
    clear hma hMa hRa
    go_wp2_with fail
    refine bodyPost_ret (v := .tuple #[.agg #[.string ⟨#[]⟩, .int .i64 0, .string ⟨#[]⟩, .int .i64 0], .int .i64 81]) (by simp [results, Tryz.results37, go_sem, q0, q1, q2, q3]) rfl ⟨by rw [HOC2.out HOK.out, HOK.out]; rfl, ?_⟩
    exact mod_set4 HMa.out (.inr (Nat.le_refl _)) _ _ _ _

set_option maxRecDepth 100000 in
set_option maxHeartbeats 2000000 in
theorem rTakeEntry_calls (name s : ByteArray) (w : World) (hn : name.size ≤ 100000000) (hs : s.size ≤ 100000000) :
    Calls Tryz.prog 19 #[.string name, .string s] w fun e w' => e = .returned (.tuple #[.agg (entC (goutEntry name s.data.toList)), errV (gokEntry name s.data.toList)]) ∧ Mod (fun _ => False) w w' := by
  have hL : s.data.toList.length ≤ 100000000 := by simpa using hs
  have hR := Has.new w [.string ⟨#[]⟩, .int .i64 0, .string ⟨#[]⟩, .int .i64 0] 60
  have hM0 := (Mod.refl (fun _ => False) w).alloc (.cells #[.string ⟨#[]⟩, .int .i64 0, .string ⟨#[]⟩, .int .i64 0] 60)
  obtain ⟨c1, w1, hE, hM1, hC1, hN1, hx1, hg1, hf1, hrow⟩ := to_bytes s (w.alloc (.cells #[.string ⟨#[]⟩, .int .i64 0, .string ⟨#[]⟩, .int .i64 0] 60)) (by unfold maxLen; omega)
  have hrd := rg_new s _ w1 c1 hM1 hC1 hN1 hx1 hg1 hrow
  rw [size_alloc] at hE hrd
  obtain ⟨OC, hOC⟩ : ∃ OC, goutEntry name s.data.toList = OC := ⟨_, rfl⟩
  rw [hOC]
  have HOC1 : Hid (gokEntry name s.data.toList = true → OC = gEnt name s.data.toList) := Lib.hid (fun h => by rw [← hOC]; unfold goutEntry; rw [if_pos h])
  have HOC2 : Hid (gokEntry name s.data.toList = false → OC = ent0) := Lib.hid (fun h => by rw [← hOC]; unfold goutEntry; rw [if_neg (by rw [h]; decide)])
  generalize s.data.toList = L at *
  have hsz : w.heap.size + 1 = (w.alloc (.cells #[.string ⟨#[]⟩, .int .i64 0, .string ⟨#[]⟩, .int .i64 0] 60)).heap.size := by simp
  obtain ⟨w0, hw0⟩ : ∃ w0, w.alloc (.cells #[.string ⟨#[]⟩, .int .i64 0, .string ⟨#[]⟩, .int .i64 0] 60) = w0 := ⟨_, rfl⟩
  rw [hw0] at hR hM0 hrd hsz hM1
  have HR0 := Lib.hid hR
  have HM0 := Lib.hid hM0
  have HSZ := Lib.hid hsz
  have HRD := Lib.hid hrd
  have HRE := Lib.hid (fun E w' h => rightEntry_calls E w' h)
  clear hOC hR hM0 hsz hrd hM1 hC1 hN1 hx1 hf1 hrow hw0
  go_enter Tryz.func19, Tryz.ntmps19
  go_wp2_with fail
  obtain ⟨b, hb⟩ : ∃ b, w1.heap.size = b := ⟨_, rfl⟩
  rw [hb] at HRD
  rw [hb]
  generalize w1.alloc (.cells #[.slice (some ⟨w.heap.size + 1, 0, none⟩) s.size c1, .int .i64 0, .bool false] 91) = w2 at *
  clear hE hg1 hb
  refine (gInt_calls HRD.out hL).mono ?_
  rintro e w5 ⟨rfl, h5, _⟩
  have e1 : (gInt L ⟨false, 0⟩).1 = (gKind L).1 := rfl
  have e2 : (gInt L ⟨false, 0⟩).2 = (gKind L).2 := rfl
  rw [e1]
  rw [e2] at h5
  have hgb : w5.heap.size ≠ b := by
    obtain ⟨A, c, hA⟩ := h5.ex
    have := hA.has.lt; omega
  have HGB := Lib.hid hgb
  have HGZ := Lib.hid h5.mod.size
  have H5 := Lib.hid h5
  clear h5 e1 e2 hgb HRD
  go_wp2_with fail
  refine (gId_calls (H5.out.alloc (.cells #[.string name, .int .i64 (gKind L).1, .string ⟨#[]⟩, .int .i64 0] 60)) hL).mono ?_
  rintro e w6 ⟨rfl, h6, hm6⟩
  have e1 : (⟨(gId L (gKind L).2).1.toArray⟩ : ByteArray) = (gEnt name L).id := rfl
  have e2 : (gId L (gKind L).2).2 = (gEId L).2 := rfl
  rw [e1]
  rw [e2] at h6
  have hG6 := (Has.new w5 [.string name, .int .i64 (gKind L).1, .string ⟨#[]⟩, .int .i64 0] 60).keep hm6 HGB.out
  have g2 := hG6.cell (o := 2) rfl
  have f2 := hG6.frozen 2
  have H7 := Lib.hid (h6.store hG6 (by decide) HGB.out HGZ.out 2 (.string (gEnt name L).id))
  have HG7 := Lib.hid (hG6.set 2 (.string (gEnt name L).id))
  clear h6 hm6 e1 e2 hG6 H5
  go_wp2_with fail
  refine (gInt_calls H7.out hL).mono ?_
  rintro e w8 ⟨rfl, h8, hm8⟩
  have e1 : (gInt L (gEId L).2).1 = (gEnt name L).size := rfl
  have e2 : (gInt L (gEId L).2).2 = (gESize L).2 := rfl
  rw [e1]
  rw [e2] at h8
  have hG8 := HG7.out.keep hm8 HGB.out
  have g3 := hG8.cell (o := 3) rfl
  have f3 := hG8.frozen 3
  have h9 := h8.store hG8 (by decide) HGB.out HGZ.out 3 (.int .i64 (gEnt name L).size)
  have HG9 := Lib.hid (hG8.set 3 (.int .i64 (gEnt name L).size))
  have hokk : gokEntry name L = (gEnds L (gESize L).2 && rightEntry (gEnt name L)) := rfl
  have hRE := fun w' => HRE.out (gEnt name L) w' hn
  unfold entC at hRE
  have hek : (gEnt name L).kind = (gKind L).1 := rfl
  have hen : (gEnt name L).name = name := rfl
  rw [hek, hen] at hRE
  have EK := Lib.hid hek
  have EN := Lib.hid hen
  obtain ⟨en, hend⟩ : ∃ en, gEnds L (gESize L).2 = en := ⟨_, rfl⟩
  obtain ⟨rt, hrt⟩ : ∃ rt, rightEntry (gEnt name L) = rt := ⟨_, rfl⟩
  rw [hend, hrt] at hokk
  rw [hrt] at hRE
  have HOK := Lib.hid hokk
  have HRE := Lib.hid hRE
  have hGE := gEnds_calls h9 hL
  rw [hend] at hGE
  have HGE := Lib.hid hGE
  have HM9 := Lib.hid h9.mod
  clear h8 hm8 e1 e2 hG8 h9 hokk hRE hek hen hend hrt hGE H7 HG7
  generalize gEnt name L = RE at *
  generalize (gKind L).1 = kk at *
  go_wp2_with fail
  refine HGE.out.mono ?_
  rintro e wa ⟨rfl, hma⟩
  have hGa := HG9.out.keep hma (fun h => h)
  have x0 := hGa.cell (o := 0) rfl
  have x1 := hGa.cell (o := 1) rfl
  have x2 := hGa.cell (o := 2) rfl
  have x3 := hGa.cell (o := 3) rfl
  have HGA := Lib.hid hGa
  have HMA := Lib.hid (Mod.trans HM9.out hma (fun _ _ h => h))
  clear hma hGa
  go_wp2_with fail
  refine (HRE.out _).mono ?_
  rintro e wb ⟨rfl, hmb⟩
  have hGb := HGA.out.keep hmb (fun h => h)
  have z0 := hGb.cell (o := 0) rfl
  have z1 := hGb.cell (o := 1) rfl
  have z2 := hGb.cell (o := 2) rfl
  have z3 := hGb.cell (o := 3) rfl
  have hMb := Mod.trans HMA.out hmb (fun _ _ h => h)
  have hRb := HR0.out.keep hMb (fun h => h)
  have k0 := hRb.frozen 0
  have k1 := hRb.frozen 1
  have k2 := hRb.frozen 2
  have k3 := hRb.frozen 3
  have q0 := hRb.cell (o := 0) rfl
  have q1 := hRb.cell (o := 1) rfl
  have q2 := hRb.cell (o := 2) rfl
  have q3 := hRb.cell (o := 3) rfl
  have HMb := Lib.hid (Mod.trans HM0.out hMb (fun _ _ h => h))
  clear hmb hMb hRb hGb x0 x1 x2 x3
  have hbad : gokEntry name L = false → ∀ (P : Prop), (OC = ent0 → errV (gokEntry name L) = .int .i64 81 → P) → P := fun h P k => k (HOC2.out h) (by rw [h]; rfl)
  have HBAD := Lib.hid hbad
  clear hbad
  cases en with
  | true =>
    cases rt with
    | true =>
      have hok : gokEntry name L = true := HOK.out
      have HOK := Lib.hid hok
      clear hok
      go_wp2_with fail
      refine bodyPost_ret (v := .tuple #[.agg #[.string name, .int .i64 kk, .string RE.id, .int .i64 RE.size], .int .i64 0]) (by simp [results, Tryz.results19, go_sem, q0, q1, q2, q3]) rfl ⟨by rw [HOC1.out HOK.out, HOK.out, ← EK.out, ← EN.out]; rfl, ?_⟩
      exact mod_set4 HMb.out (.inr (Nat.le_refl _)) _ _ _ _
    | false =>
      have hok : gokEntry name L = false := HOK.out
      have HOK := Lib.hid hok
      clear hok
      go_wp2_with fail
      refine bodyPost_ret (v := .tuple #[.agg #[.string ⟨#[]⟩, .int .i64 0, .string ⟨#[]⟩, .int .i64 0], .int .i64 81]) (by simp [results, Tryz.results19, go_sem, q0, q1, q2, q3]) rfl ⟨by rw [HOC2.out HOK.out, HOK.out]; rfl, ?_⟩
      exact mod_set4 HMb.out (.inr (Nat.le_refl _)) _ _ _ _
  | false =>
    have hok : gokEntry name L = false := HOK.out
    have HOK := Lib.hid hok
    clear hok
    go_wp2_with fail
    refine bodyPost_ret (v := .tuple #[.agg #[.string ⟨#[]⟩, .int .i64 0, .string ⟨#[]⟩, .int .i64 0], .int .i64 81]) (by simp [results, Tryz.results19, go_sem, q0, q1, q2, q3]) rfl ⟨by rw [HOC2.out HOK.out, HOK.out]; rfl, ?_⟩
    exact mod_set4 HMb.out (.inr (Nat.le_refl _)) _ _ _ _
end Obj
end Go.Proofs.YtenamjldkaggcaaGreatDoor
