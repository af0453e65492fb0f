/- Plain laws: the reference's reader; both readers of fans agree. -/
import Derived.Test.YtenamjldkaggcaaDoorObjX
namespace Go.Proofs.YtenamjldkaggcaaDoor
set_option linter.unusedVariables false
set_option linter.unusedSimpArgs false
open Go.RowKit K Wire
namespace Obj

def gpre (p : List UInt8) : RR := ⟨false, p.length⟩
theorem gInt_pre (p r : List UInt8) (n : Int) (hn : In64 n) : gInt (p ++ (enc n ++ r)) (gpre p) = (n, gpre (p ++ enc n)) := by
  unfold gInt gpre
  rw [if_neg (by simp)]
  dsimp only
  rw [takeI_put p n r hn]
  simp
theorem gText_pre (p s r : List UInt8) (most : Int) (h : (s.length : Int) ≤ most) (hs : s.length ≤ 140737488355328) : gText (p ++ (encT s ++ r)) most (gpre p) = (s, gpre (p ++ encT s)) := by
  unfold gText gpre
  rw [if_neg (by simp)]
  dsimp only
  rw [takeT_put p s r most hs h]
  simp
theorem gId_pre (p s r : List UInt8) (h : s.length = 32) : gId (p ++ (s ++ r)) (gpre p) = (s, gpre (p ++ s)) := by
  unfold gId gpre
  dsimp only
  have e : (p ++ (s ++ r)).drop ((p.length : Nat) : Int).toNat = s ++ r := by rw [Int.toNat_natCast, List.drop_left]
  have e2 : (s ++ r).take 32 = s := by rw [← h, List.take_left]
  rw [if_neg (by simp; omega), e, e2]
  simp; omega
theorem gCount_pre (p r : List UInt8) (n most : Int) (hn : In64 n) (h0 : 0 ≤ n) (h1 : n ≤ most) : gCount (p ++ (enc n ++ r)) most (gpre p) = (n, gpre (p ++ enc n)) := by
  unfold gCount
  rw [gInt_pre p r n hn, if_neg (by dsimp only; omega)]
theorem gList_pre {α : Type} (L : List UInt8) (f : RR → α × RR) (e : α → List UInt8) : ∀ (l : List α) (p r : List UInt8) (acc : List α), L = p ++ (l.flatMap e ++ r) →
    (∀ a ∈ l, ∀ p r, L = p ++ (e a ++ r) → f (gpre p) = (a, gpre (p ++ e a))) → gList f l.length (gpre p) acc = (gpre (p ++ l.flatMap e), acc ++ l)
  | [], p, r, acc, hL, _ => by simp [gList]
  | a :: l, p, r, acc, hL, hf => by
    have h1 : L = p ++ (e a ++ (l.flatMap e ++ r)) := by rw [hL, List.flatMap_cons]; simp
    rw [List.length_cons, gList_go _ _ _ _ rfl, hf a (by simp) p _ h1]
    rw [gList_pre L f e l (p ++ e a) r (acc ++ [a]) (by rw [h1]; simp) (fun b hb => hf b (by simp [hb]))]
    simp

/-- the bytes that were read -/
def Stand (L : List UInt8) (x : RR) (bs : List UInt8) : Prop := x.p = bs.length ∧ ∃ r, L = bs ++ r
theorem take_step {L bs t : List UInt8} {q : Nat} (hL : ∃ r, L = bs ++ r) (h1 : bs.length + q ≤ L.length) (h : (L.drop bs.length).take q = t) : t.length = q ∧ ∃ r, L = (bs ++ t) ++ r := by
  obtain ⟨r, rfl⟩ := hL
  rw [List.drop_left] at h
  rw [List.length_append] at h1
  refine ⟨by rw [← h, List.length_take]; omega, r.drop q, ?_⟩
  rw [← h, List.append_assoc, List.take_append_drop]
theorem gInt_got (L : List UInt8) (x : RR) (h : (gInt L x).2.bad = false) : x.bad = false ∧ ∀ bs, Stand L x bs → Stand L (gInt L x).2 (bs ++ enc (gInt L x).1) := by
  unfold gInt at *
  by_cases hb : x.bad = true
  · rw [if_pos hb] at h; rw [hb] at h; cases h
  · rw [if_neg hb] at *
    dsimp only at *
    refine ⟨by simpa using hb, fun bs ⟨h1, h2⟩ => ?_⟩
    obtain ⟨p, q, h3, h4, _, h5, h6⟩ := takeI_back L x.p (by simpa using h)
    obtain rfl : p = bs.length := by omega
    obtain ⟨h7, h8⟩ := take_step h2 h4 h6
    exact ⟨by dsimp only; rw [h5, List.length_append, h7]; omega, h8⟩
theorem gText_got (L : List UInt8) (most : Int) (x : RR) (h : (gText L most x).2.bad = false) : x.bad = false ∧ ∀ bs, Stand L x bs → Stand L (gText L most x).2 (bs ++ encT (gText L most x).1) := by
  unfold gText at *
  by_cases hb : x.bad = true
  · rw [if_pos hb] at h; rw [hb] at h; cases h
  · rw [if_neg hb] at *
    dsimp only at *
    refine ⟨by simpa using hb, fun bs ⟨h1, h2⟩ => ?_⟩
    obtain ⟨p, q, h3, h4, _, h5, h6⟩ := takeT_back L x.p most (by simpa using h)
    obtain rfl : p = bs.length := by omega
    obtain ⟨h7, h8⟩ := take_step h2 h4 h6
    exact ⟨by dsimp only; rw [h5, List.length_append, h7]; omega, h8⟩
theorem gId_got (L : List UInt8) (x : RR) (h : (gId L x).2.bad = false) : x.bad = false ∧ ∀ bs, Stand L x bs → Stand L (gId L x).2 (bs ++ (gId L x).1) := by
  unfold gId at *
  by_cases hb : x.bad = true ∨ (L.length : Int) - x.p < 32
  · rw [if_pos hb] at h; cases h
  · rw [if_neg hb] at *
    dsimp only at *
    refine ⟨by cases hx : x.bad with
      | true => exact absurd (.inl hx) hb
      | false => rfl, fun bs ⟨h1, h2⟩ => ?_⟩
    rw [h1, Int.toNat_natCast]
    obtain ⟨h7, h8⟩ := take_step (q := 32) h2 (by omega) rfl
    exact ⟨by dsimp only; rw [List.length_append, h7]; omega, h8⟩
theorem gCount_got (L : List UInt8) (most : Int) (x : RR) (h : (gCount L most x).2.bad = false) : x.bad = false ∧ 0 ≤ (gCount L most x).1 ∧ (gCount L most x).1 ≤ most ∧ ∀ bs, Stand L x bs → Stand L (gCount L most x).2 (bs ++ enc (gCount L most x).1) := by
  unfold gCount at *
  by_cases hb : (gInt L x).1 < 0 ∨ most < (gInt L x).1
  · rw [if_pos hb] at h; cases h
  · rw [if_neg hb] at *
    obtain ⟨h1, h2⟩ := gInt_got L x h
    exact ⟨h1, by omega, by omega, h2⟩
theorem gList_got {α : Type} (L : List UInt8) (f : RR → α × RR) (e : α → List UInt8) (hf : ∀ x, (f x).2.bad = false → x.bad = false ∧ ∀ bs, Stand L x bs → Stand L (f x).2 (bs ++ e (f x).1)) :
    ∀ (n : Nat) (x : RR) (acc : List α), (gList f n x acc).1.bad = false → x.bad = false ∧ ∃ l, (gList f n x acc).2 = acc ++ l ∧ l.length = n ∧ ∀ bs, Stand L x bs → Stand L (gList f n x acc).1 (bs ++ l.flatMap e)
  | 0, x, acc, h => ⟨h, [], by simp [gList]⟩
  | n + 1, x, acc, h => by
    by_cases hb : x.bad = true
    · rw [gList_stop _ _ _ _ (.inr hb)] at h; rw [hb] at h; cases h
    · have hb0 : x.bad = false := by simpa using hb
      rw [gList_go _ _ _ _ hb0] at h ⊢
      obtain ⟨h1, l, h2, h3, h4⟩ := gList_got L f e hf n _ _ h
      obtain ⟨_, h6⟩ := hf x h1
      refine ⟨hb0, (f x).1 :: l, by rw [h2]; simp, by simp [h3], fun bs hbs => ?_⟩
      rw [List.flatMap_cons, ← List.append_assoc]
      exact h4 _ (h6 bs hbs)
theorem begun_got {L : List UInt8} {m : UInt8} (h : begunBad L m = false) : Stand L ⟨begunBad L m, 1⟩ [m] := by
  unfold begunBad at h
  have h1 : L.head? = some m := by simpa using h
  cases L with
  | nil => cases h1
  | cons a l => obtain rfl : a = m := by simpa using h1
                exact ⟨rfl, l, rfl⟩
theorem gEnds_got {L : List UInt8} {x : RR} {bs : List UInt8} (h : gEnds L x = true) (hs : x.bad = false → Stand L x bs) : L = bs := by
  unfold gEnds at h
  simp only [Bool.and_eq_true, Bool.not_eq_true', decide_eq_true_eq] at h
  obtain ⟨h1, r, h2⟩ := hs h.1
  have h3 := congrArg List.length h2
  rw [List.length_append] at h3
  have : r.length = 0 := by omega
  rw [List.eq_nil_of_length_eq_zero this, List.append_nil] at h2
  exact h2
theorem begunBad_no (m : UInt8) (l : List UInt8) : begunBad (m :: l) m = false := by simp [begunBad]

/-! fans -/
theorem gPart_pre (L : List UInt8) (a : Part) (ha : partOk a = true) (p r : List UInt8) (hs : In64 a.size) (hL : L = p ++ (partB a ++ r)) : gPart L (gpre p) = (a, gpre (p ++ partB a)) := by
  simp only [partOk, Bool.and_eq_true, decide_eq_true_eq] at ha
  have e : a.id.data.toList.length = 32 := by rw [← ha.1]; simp
  have h1 : gId L (gpre p) = (a.id.data.toList, gpre (p ++ a.id.data.toList)) := by rw [hL, partB, List.append_assoc]; exact gId_pre p _ _ e
  have h2 : gInt L (gpre (p ++ a.id.data.toList)) = (a.size, gpre (p ++ a.id.data.toList ++ enc a.size)) := by
    rw [hL, partB, show p ++ (a.id.data.toList ++ enc a.size ++ r) = (p ++ a.id.data.toList) ++ (enc a.size ++ r) by simp]
    exact gInt_pre _ _ _ hs
  unfold gPart
  rw [h1]; dsimp only; rw [h2]
  simp [partB]
theorem gPart_got (L : List UInt8) (x : RR) (h : (gPart L x).2.bad = false) : x.bad = false ∧ ∀ bs, Stand L x bs → Stand L (gPart L x).2 (bs ++ partB (gPart L x).1) := by
  obtain ⟨h1, h2⟩ := gInt_got L (gId L x).2 h
  obtain ⟨h3, h4⟩ := gId_got L x h1
  refine ⟨h3, fun bs hbs => ?_⟩
  have := h2 _ (h4 bs hbs)
  rw [List.append_assoc] at this
  exact this
theorem gfan_sound (L : List UInt8) (h : gokFan L = true) : L = fanB (gfanL L) (gFan L).2 ∧ rightFan (gfanL L) (gFan L).2 = true := by
  unfold gokFan at h
  rw [Bool.and_eq_true] at h
  refine ⟨?_, h.2⟩
  have hb : (gFan L).1.bad = false := by
    have := h.1; unfold gEnds at this
    simp only [Bool.and_eq_true, Bool.not_eq_true'] at this
    exact this.1
  obtain ⟨hb1, l, h2, h3, h4⟩ := gList_got L (gPart L) partB (gPart_got L) _ _ [] hb
  obtain ⟨hb2, h5, h6, h7⟩ := gCount_got L 32 _ hb1
  obtain ⟨hb3, h8⟩ := gInt_got L _ hb2
  have h9 := h4 _ (h7 _ (h8 _ (begun_got hb3)))
  have hk : (gFan L).2 = l := by simpa [gFan] using h2
  have hn : (gCount L 32 (gInt L ⟨begunBad L 0x46, 1⟩).2).1 = (l.length : Int) := by omega
  refine (gEnds_got h.1 (fun _ => h9)).trans ?_
  rw [hk, hn]
  simp [fanB, gfanL]
theorem gfan_complete (level : Int) (kids : List Part) (h : rightFan level kids = true) : gokFan (fanB level kids) = true ∧ goutFan (fanB level kids) = (level, kids) := by
  have h0 := h
  simp only [rightFan, Bool.and_eq_true] at h
  obtain ⟨⟨⟨h1, h2⟩, h3⟩, h4⟩ := h
  simp only [inR, Bool.and_eq_true, decide_eq_true_eq] at h1 h2
  obtain ⟨L, hL⟩ : ∃ L, L = fanB level kids := ⟨_, rfl⟩
  have e0 : (⟨begunBad L 0x46, 1⟩ : RR) = gpre [0x46] := by rw [hL, fanB, begunBad_no]; rfl
  have e1 : gInt L (gpre [0x46]) = (level, gpre ([0x46] ++ enc level)) := by
    rw [hL]; exact gInt_pre [0x46] (enc (kids.length : Int) ++ kids.flatMap partB) level (by unfold In64; omega)
  have e2 : gCount L 32 (gpre ([0x46] ++ enc level)) = ((kids.length : Int), gpre ([0x46] ++ enc level ++ enc (kids.length : Int))) := by
    rw [hL, show fanB level kids = ([0x46] ++ enc level) ++ (enc (kids.length : Int) ++ kids.flatMap partB) by simp [fanB]]
    exact gCount_pre _ _ _ 32 (by unfold In64; omega) (by omega) (by omega)
  have e3 := gList_pre L (gPart L) partB kids ([0x46] ++ enc level ++ enc (kids.length : Int)) [] [] (by rw [hL]; simp [fanB]) (fun a ha p r hp => by
    have hok := List.all_eq_true.1 h3 a ha
    have hok2 := hok
    simp only [partOk, inR, Bool.and_eq_true, decide_eq_true_eq] at hok2
    exact gPart_pre L a hok p r (by unfold In64; omega) hp)
  have e4 : [0x46] ++ enc level ++ enc (kids.length : Int) ++ kids.flatMap partB = L := by rw [hL]; simp [fanB]
  rw [e4] at e3
  rw [← hL]
  have f1 : gfanL L = level := by unfold gfanL; rw [e0, e1]
  have f2 : gFan L = (gpre L, kids) := by
    unfold gFan
    rw [e0, e1]; dsimp only
    rw [e2]; dsimp only
    rw [Int.toNat_natCast, e3]; rfl
  have hok : gokFan L = true := by
    unfold gokFan
    rw [f1, f2]
    dsimp only
    rw [h0]
    simp [gEnds, gpre]
  exact ⟨hok, by unfold goutFan; rw [if_pos hok, f1, f2]⟩
theorem fans_agree (L : List UInt8) : okFan L = gokFan L ∧ outFan L = goutFan L := by
  cases h : okFan L with
  | true =>
    obtain ⟨h1, h2⟩ := fan_sound L h
    obtain ⟨h3, h4⟩ := fan_complete _ _ h2
    obtain ⟨h5, h6⟩ := gfan_complete _ _ h2
    rw [← h1] at h4 h5 h6
    exact ⟨h5.symm, h4.trans h6.symm⟩
  | false =>
    cases h' : gokFan L with
    | true =>
      obtain ⟨h1, h2⟩ := gfan_sound L h'
      have h3 := (fan_complete _ _ h2).1
      rw [← h1, h] at h3; cases h3
    | false => exact ⟨rfl, by unfold outFan goutFan; rw [h, h', if_neg (by decide), if_neg (by decide)]⟩
end Obj
end Go.Proofs.YtenamjldkaggcaaDoor
