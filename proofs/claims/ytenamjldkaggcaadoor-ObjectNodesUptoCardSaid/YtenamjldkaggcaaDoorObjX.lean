/- Plain laws: what is put is read again, and what was read is what was put. -/
import Derived.Test.YtenamjldkaggcaaDoorObjU
namespace Go.Proofs.YtenamjldkaggcaaDoor
set_option linter.unusedVariables false
set_option linter.unusedSimpArgs false
open Go.RowKit K
namespace Wire
theorem takeI_put (p : List UInt8) (n : Int) (r : List UInt8) (hn : In64 n) : takeI (p ++ (enc n ++ r)) (p.length : Int) = (n, ((p.length + (enc n).length : Nat) : Int), true) := by
  have h := takeI_some (p ++ (enc n ++ r)) p.length n (enc n).length (by simp) (by rw [List.drop_left]; exact dec_enc n hn r)
  rw [h]; simp

theorem takeT_put (p s r : List UInt8) (most : Int) (hs : s.length ≤ 140737488355328) (hm : (s.length : Int) ≤ most) :
    takeT (p ++ (encT s ++ r)) (p.length : Int) most = (s, ((p.length + (encT s).length : Nat) : Int), true) := by
  have h := takeI_put p s.length (s ++ r) (in64_len _ hs)
  unfold takeT encT
  rw [List.append_assoc, h]
  dsimp only
  rw [if_neg (by simp; omega)]
  have e : (p ++ (enc (s.length : Int) ++ (s ++ r))).drop ((p.length + (enc (s.length : Int)).length : Nat) : Int).toNat = s ++ r := by
    rw [Int.toNat_natCast, ← List.append_assoc, ← List.length_append, List.drop_left]
  rw [e, Int.toNat_natCast, List.take_left]
  simp only [List.length_append, Prod.mk.injEq, and_true, true_and]
  omega

/-- what is taken, put again, has just those bytes -/
theorem takeI_back (l : List UInt8) (at_ : Int) (h : (takeI l at_).2.2 = true) :
    ∃ (p q : Nat), at_ = p ∧ p + q ≤ l.length ∧ In64 (takeI l at_).1 ∧ (takeI l at_).2.1 = ((p : Int) + (q : Int)) ∧ (l.drop p).take q = enc (takeI l at_).1 := by
  rcases takeI_cases l at_ with h0 | ⟨n, p, k, rfl, hk, -, hpk, hn, hd, h0⟩
  · rw [h0] at h; cases h
  · obtain ⟨-, -, -, -, h5⟩ := dec_some _ _ _ hd
    rw [h0]
    exact ⟨p, k, rfl, hpk, hn, by simp, h5⟩

theorem takeT_back (l : List UInt8) (at_ most : Int) (h : (takeT l at_ most).2.2 = true) :
    ∃ (p q : Nat), at_ = p ∧ p + q ≤ l.length ∧ (takeT l at_ most).1.length ≤ q ∧ (takeT l at_ most).2.1 = ((p : Int) + (q : Int)) ∧ (l.drop p).take q = encT (takeT l at_ most).1 := by
  unfold takeT at h ⊢
  rcases takeI_cases l at_ with h0 | ⟨n, p, k, rfl, hk, -, hpk, hn, hd, h0⟩
  · rw [h0] at h; simp at h
  · obtain ⟨-, -, -, -, h5⟩ := dec_some _ _ _ hd
    rw [h0] at h ⊢
    dsimp only at h ⊢
    by_cases hc : True = False ∨ n < 0 ∨ most < n ∨ (l.length : Int) - ((p + k : Nat) : Int) < n
    · rw [if_pos (by simpa using hc)] at h; cases h
    · rw [if_neg (by simpa using hc)]
      obtain ⟨m, rfl⟩ := Int.eq_ofNat_of_zero_le (show 0 ≤ n by omega)
      simp only [Int.toNat_natCast]
      have hlen : ((l.drop (p + k)).take m).length = m := by simp; omega
      refine ⟨p, k + m, rfl, by omega, by rw [hlen]; omega, by omega, ?_⟩
      rw [encT, hlen, ← h5, List.take_add, List.drop_drop]
end Wire
open Wire
namespace Obj

def pre (p : List UInt8) : RS := ⟨p, false, p.length⟩
theorem tInt_pre (p r : List UInt8) (n lo hi : Int) (hn : In64 n) (h : inR n lo hi = true) : tInt (p ++ (enc n ++ r)) lo hi (pre p) = (n, pre (p ++ enc n)) := by
  unfold tInt pre
  rw [if_neg (by simp)]
  dsimp only
  rw [takeI_put p n r hn]
  simp [h]
theorem tText_pre (p s r : List UInt8) (lo hi : Int) (h : inR (s.length : Int) lo hi = true) (hs : s.length ≤ 140737488355328) : tText (p ++ (encT s ++ r)) lo hi (pre p) = (s, pre (p ++ encT s)) := by
  unfold tText pre
  rw [if_neg (by simp)]
  dsimp only
  have h2 := h
  simp only [inR, Bool.and_eq_true, decide_eq_true_eq] at h2
  rw [takeT_put p s r hi hs h2.2]
  simp [h]
theorem tId_pre (p s r : List UInt8) (h : s.length = 32) : tId (p ++ (s ++ r)) (pre p) = (s, pre (p ++ s)) := by
  unfold tId pre
  dsimp only
  have e : (p ++ (s ++ r)).drop ((p.length : Nat) : Int).toNat = s ++ r := by rw [Int.toNat_natCast, List.drop_left]
  have e2 : (s ++ r).take 32 = s := by rw [← h, List.take_left]
  rw [if_neg (by simp; omega), e, e2]
  simp; omega
theorem rdList_pre {α : Type} (L : List UInt8) (f : RS → α × RS) (e : α → List UInt8) : ∀ (l : List α) (p r : List UInt8) (acc : List α), L = p ++ (l.flatMap e ++ r) →
    (∀ a ∈ l, ∀ p r, L = p ++ (e a ++ r) → f (pre p) = (a, pre (p ++ e a))) → rdList f l.length (pre p) acc = (pre (p ++ l.flatMap e), acc ++ l)
  | [], p, r, acc, hL, _ => by simp [rdList]
  | a :: l, p, r, acc, hL, hf => by
    have h1 : L = p ++ (e a ++ (l.flatMap e ++ r)) := by rw [hL, List.flatMap_cons]; simp
    rw [List.length_cons, rdList_go _ _ _ _ rfl, hf a (by simp) p _ h1]
    rw [rdList_pre L f e l (p ++ e a) r (acc ++ [a]) (by rw [h1]; simp) (fun b hb => hf b (by simp [hb]))]
    simp

theorem tInt_got (L : List UInt8) (lo hi : Int) (x : RS) (h : (tInt L lo hi x).2.bad = false) : x.bad = false ∧ (tInt L lo hi x).2.l = x.l ++ enc (tInt L lo hi x).1 ∧ inR (tInt L lo hi x).1 lo hi = true := by
  unfold tInt at *
  by_cases hb : x.bad = true
  · rw [if_pos hb] at h; exact absurd h (by rw [hb]; decide)
  · rw [if_neg hb] at *
    dsimp only at *
    simp only [Bool.or_eq_false_iff, Bool.not_eq_false'] at h
    exact ⟨by simpa using hb, rfl, h.2⟩
theorem tInt_p (L : List UInt8) (lo hi : Int) (x : RS) (h : 0 ≤ x.p) : 0 ≤ (tInt L lo hi x).2.p := by
  unfold tInt
  split
  · exact h
  · exact (takeI_in L x.p).2.1
theorem tText_got (L : List UInt8) (lo hi : Int) (x : RS) (h : (tText L lo hi x).2.bad = false) : x.bad = false ∧ (tText L lo hi x).2.l = x.l ++ encT (tText L lo hi x).1 ∧ inR ((tText L lo hi x).1.length : Int) lo hi = true := by
  unfold tText at *
  by_cases hb : x.bad = true
  · rw [if_pos hb] at h; exact absurd h (by rw [hb]; decide)
  · rw [if_neg hb] at *
    dsimp only at *
    simp only [Bool.or_eq_false_iff, Bool.not_eq_false'] at h
    exact ⟨by simpa using hb, rfl, h.2⟩
theorem tText_p (L : List UInt8) (lo hi : Int) (x : RS) (h : 0 ≤ x.p) : 0 ≤ (tText L lo hi x).2.p := by
  unfold tText
  split
  · exact h
  · exact (takeT_in L x.p hi).1
theorem tId_got (L : List UInt8) (x : RS) (hp : 0 ≤ x.p) (h : (tId L x).2.bad = false) : x.bad = false ∧ (tId L x).2.l = x.l ++ (tId L x).1 ∧ (tId L x).1.length = 32 := by
  unfold tId at *
  by_cases hb : x.bad = true ∨ (L.length : Int) - x.p < 32
  · rw [if_pos hb] at h; cases h
  · rw [if_neg hb] at *
    dsimp only at *
    rw [List.length_take, List.length_drop]
    exact ⟨by cases hx : x.bad with
      | true => exact absurd (.inl hx) hb
      | false => rfl, rfl, by omega⟩
theorem tId_p (L : List UInt8) (x : RS) (h : 0 ≤ x.p) : 0 ≤ (tId L x).2.p := by
  unfold tId
  split
  · exact h
  · show 0 ≤ x.p + 32; omega
theorem rdList_got {α : Type} (f : RS → α × RS) (e : α → List UInt8) (ok : α → Bool) (hp : ∀ x, 0 ≤ x.p → 0 ≤ (f x).2.p) (hf : ∀ x, 0 ≤ x.p → (f x).2.bad = false → x.bad = false ∧ (f x).2.l = x.l ++ e (f x).1 ∧ ok (f x).1 = true) :
    ∀ (n : Nat) (x : RS) (acc : List α), 0 ≤ x.p → (rdList f n x acc).1.bad = false → x.bad = false ∧ ∃ l, (rdList f n x acc).2 = acc ++ l ∧ l.length = n ∧ (rdList f n x acc).1.l = x.l ++ l.flatMap e ∧ l.all ok = true
  | 0, x, acc, _, h => ⟨h, [], by simp [rdList]⟩
  | n + 1, x, acc, hx, h => by
    by_cases hb : x.bad = true
    · rw [rdList_stop _ _ _ _ (.inr hb)] at h; rw [hb] at h; cases h
    · have hb0 : x.bad = false := by simpa using hb
      rw [rdList_go _ _ _ _ hb0] at h ⊢
      obtain ⟨h1, l, h2, h3, h4, h5⟩ := rdList_got f e ok hp hf n _ _ (hp x hx) h
      obtain ⟨_, h6, h7⟩ := hf x hx h1
      refine ⟨hb0, (f x).1 :: l, by rw [h2]; simp, by simp [h3], by rw [h4, h6]; simp, by simp [h7, h5]⟩

/-! fans -/
theorem partB_pre (L : List UInt8) (a : Part) (ha : partOk a = true) (p r : List UInt8) (hs : In64 a.size) (hL : L = p ++ (partB a ++ r)) : rdPart L (pre p) = (a, pre (p ++ partB a)) := by
  simp only [partOk, Bool.and_eq_true, decide_eq_true_eq] at ha
  have e : a.id.data.toList.length = 32 := by rw [← ha.1]; simp
  have h1 : tId L (pre p) = (a.id.data.toList, pre (p ++ a.id.data.toList)) := by rw [hL, partB, List.append_assoc]; exact tId_pre p _ _ e
  have h2 : tInt L 1 262144 (pre (p ++ a.id.data.toList)) = (a.size, pre (p ++ a.id.data.toList ++ enc a.size)) := by
    rw [hL, partB, show p ++ (a.id.data.toList ++ enc a.size ++ r) = (p ++ a.id.data.toList) ++ (enc a.size ++ r) by simp]
    exact tInt_pre _ _ _ _ _ hs ha.2
  unfold rdPart
  rw [h1]; dsimp only; rw [h2]
  simp [partB]
theorem rdPart_got (L : List UInt8) (x : RS) (hp : 0 ≤ x.p) (h : (rdPart L x).2.bad = false) : x.bad = false ∧ (rdPart L x).2.l = x.l ++ partB (rdPart L x).1 ∧ partOk (rdPart L x).1 = true := by
  obtain ⟨h1, h2, h3⟩ := tInt_got L 1 262144 (tId L x).2 h
  obtain ⟨h4, h5, h6⟩ := tId_got L x hp h1
  refine ⟨h4, ?_, ?_⟩
  · show (tInt L 1 262144 (tId L x).2).2.l = _
    rw [h2, h5]; simp [partB, rdPart]
  · unfold partOk
    rw [show inR (rdPart L x).1.size 1 262144 = true from h3, Bool.and_true, decide_eq_true_eq]
    exact h6
theorem rdPart_p (L : List UInt8) (x : RS) (h : 0 ≤ x.p) : 0 ≤ (rdPart L x).2.p := tInt_p L 1 262144 _ (tId_p L x h)

theorem ask_bad {x : RS} {ok : Bool} (h : (x.ask ok).bad = false) : x.bad = false ∧ ok = true := by
  unfold RS.ask at h
  simpa using h
theorem fan_sound (L : List UInt8) (h : okFan L = true) : L = fanB (fanL L) (rdFan L).2 ∧ rightFan (fanL L) (rdFan L).2 = true := by
  unfold okFan wholeB at h
  rw [Bool.and_eq_true, decide_eq_true_eq] at h
  obtain ⟨hb, hl⟩ := h
  obtain ⟨hb1, hcap⟩ := ask_bad (by simpa using hb)
  have hp1 := tInt_p L 1 20 ⟨[0x46], false, 1⟩ (by show (0:Int) ≤ 1; omega)
  have hp2 := tInt_p L 1 32 _ hp1
  obtain ⟨hb2, l, h2, h3, h4, h5⟩ := rdList_got (rdPart L) partB partOk (rdPart_p L) (rdPart_got L) _ _ [] hp2 hb1
  obtain ⟨hb3, h6, h7⟩ := tInt_got _ _ _ _ hb2
  obtain ⟨_, h8, h9⟩ := tInt_got _ _ _ _ hb3
  have hk : (rdFan L).2 = l := by rw [show rdFan L = _ from rfl]; simpa [rdFan] using h2
  have hx : (rdFan L).1.l = L := hl
  have hn : (tInt L 1 32 (tInt L 1 20 ⟨[0x46], false, 1⟩).2).1 = (l.length : Int) := by
    simp only [inR, Bool.and_eq_true, decide_eq_true_eq] at h7
    omega
  rw [hk]
  constructor
  · refine hx.symm.trans ?_
    show (rdList _ _ _ _).1.l = _
    rw [h4, h6, h8, hn]
    simp [fanB, fanL]
  · unfold rightFan
    rw [hk] at hcap
    rw [capSum_le 262144 (by omega) _ (by
      intro s hs
      obtain ⟨p, hp, rfl⟩ := List.mem_map.1 hs
      have := List.all_eq_true.1 h5 p hp
      simp only [partOk, inR, Bool.and_eq_true, decide_eq_true_eq] at this
      omega)] at hcap
    rw [hn] at h7
    rw [hcap, h5, h7]
    show (inR (fanL L) 1 20 && true && true && true) = true
    rw [show inR (fanL L) 1 20 = true from h9]; rfl
theorem fan_pre (level : Int) (kids : List Part) (h : rightFan level kids = true) : fanL (fanB level kids) = level ∧ rdFan (fanB level kids) = (pre (fanB level kids), kids) := by
  simp only [rightFan, Bool.and_eq_true] at h
  obtain ⟨⟨⟨h1, h2⟩, h3⟩, h4⟩ := h
  have i1 : In64 level := by simp only [inR, Bool.and_eq_true, decide_eq_true_eq] at h1; unfold In64; omega
  have i2 : In64 (kids.length : Int) := by simp only [inR, Bool.and_eq_true, decide_eq_true_eq] at h2; unfold In64; omega
  obtain ⟨L, hL⟩ : ∃ L, L = fanB level kids := ⟨_, rfl⟩
  have e0 : (⟨[0x46], false, 1⟩ : RS) = pre [0x46] := rfl
  have e1 : tInt L 1 20 (pre [0x46]) = (level, pre ([0x46] ++ enc level)) := by
    rw [hL]; exact tInt_pre [0x46] (enc (kids.length : Int) ++ kids.flatMap partB) level 1 20 i1 h1
  have e2 : tInt L 1 32 (pre ([0x46] ++ enc level)) = ((kids.length : Int), pre ([0x46] ++ enc level ++ enc (kids.length : Int))) := by
    rw [hL, show fanB level kids = ([0x46] ++ enc level) ++ (enc (kids.length : Int) ++ kids.flatMap partB) by simp [fanB]]
    exact tInt_pre _ _ _ 1 32 i2 h2
  have e3 := rdList_pre L (rdPart L) partB kids ([0x46] ++ enc level ++ enc (kids.length : Int)) [] [] (by rw [hL]; simp [fanB]) (fun a ha p r hp => by
    have hok := List.all_eq_true.1 h3 a ha
    have hok2 := hok
    simp only [partOk, inR, Bool.and_eq_true, decide_eq_true_eq] at hok2
    exact partB_pre L a hok p r (by unfold In64; omega) hp)
  have e4 : [0x46] ++ enc level ++ enc (kids.length : Int) ++ kids.flatMap partB = L := by rw [hL]; simp [fanB]
  rw [e4] at e3
  rw [← hL]
  unfold fanL rdFan
  rw [e0, e1]; dsimp only
  rw [e2]; dsimp only
  rw [Int.toNat_natCast, e3]
  exact ⟨rfl, rfl⟩
theorem fan_complete (level : Int) (kids : List Part) (h : rightFan level kids = true) : okFan (fanB level kids) = true ∧ outFan (fanB level kids) = (level, kids) := by
  obtain ⟨h1, h2⟩ := fan_pre level kids h
  simp only [rightFan, Bool.and_eq_true] at h
  have hok : okFan (fanB level kids) = true := by
    unfold okFan
    rw [h2]
    dsimp only
    rw [capSum_le 262144 (by omega) _ (by
      intro s hs
      obtain ⟨p, hp, rfl⟩ := List.mem_map.1 hs
      have := List.all_eq_true.1 h.1.2 p hp
      simp only [partOk, inR, Bool.and_eq_true, decide_eq_true_eq] at this
      omega), h.2]
    simp [wholeB, RS.ask, pre]
  exact ⟨hok, by unfold outFan; rw [if_pos hok, h1, h2]⟩
end Obj
end Go.Proofs.YtenamjldkaggcaaDoor
