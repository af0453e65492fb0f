/- Joined texts: ObjX, ObjY, Ki. -/
import Derived.Test.YtpoljpjcmigobaaDoorJ16
import Derived.Test.YtpoljpjcmigobaaDoorJ2
import Derived.Test.YtpoljpjcmigobaaDoorJ11
import Derived.Deep.SlicePairs
/- Plain laws: what is put is read again, and what was read is what was put. -/
namespace Go.Proofs.YtpoljpjcmigobaaDoor
set_option linter.unusedVariables false
set_option linter.unusedSimpArgs false
open Go.RowKit K
namespace Wire
theorem takeI_put (p : List UInt8) (n : Int) (r : List UInt8) (hn : In64 n) : takeI (p ++ (enc n ++ r)) (p.length : Int) = (n, ((p.length + (enc n).length : Nat) : Int), true) := by
  have h := takeI_some (p ++ (enc n ++ r)) p.length n (enc n).length (by simp) (by rw [List.drop_left]; exact dec_enc n hn r)
  rw [h]; simp

theorem takeT_put (p s r : List UInt8) (most : Int) (hs : s.length ≤ 140737488355328) (hm : (s.length : Int) ≤ most) :
    takeT (p ++ (encT s ++ r)) (p.length : Int) most = (s, ((p.length + (encT s).length : Nat) : Int), true) := by
  have h := takeI_put p s.length (s ++ r) (in64_len _ hs)
  unfold takeT encT
  rw [List.append_assoc, h]
  dsimp only
  rw [if_neg (by simp; omega)]
  have e : (p ++ (enc (s.length : Int) ++ (s ++ r))).drop ((p.length + (enc (s.length : Int)).length : Nat) : Int).toNat = s ++ r := by
    rw [Int.toNat_natCast, ← List.append_assoc, ← List.length_append, List.drop_left]
  rw [e, Int.toNat_natCast, List.take_left]
  simp only [List.length_append, Prod.mk.injEq, and_true, true_and]
  omega

/-- what is taken, put again, has just those bytes -/
theorem takeI_back (l : List UInt8) (at_ : Int) (h : (takeI l at_).2.2 = true) :
    ∃ (p q : Nat), at_ = p ∧ p + q ≤ l.length ∧ In64 (takeI l at_).1 ∧ (takeI l at_).2.1 = ((p : Int) + (q : Int)) ∧ (l.drop p).take q = enc (takeI l at_).1 := by
  rcases takeI_cases l at_ with h0 | ⟨n, p, k, rfl, hk, -, hpk, hn, hd, h0⟩
  · rw [h0] at h; cases h
  · obtain ⟨-, -, -, -, h5⟩ := dec_some _ _ _ hd
    rw [h0]
    exact ⟨p, k, rfl, hpk, hn, by simp, h5⟩

theorem takeT_back (l : List UInt8) (at_ most : Int) (h : (takeT l at_ most).2.2 = true) :
    ∃ (p q : Nat), at_ = p ∧ p + q ≤ l.length ∧ (takeT l at_ most).1.length ≤ q ∧ (takeT l at_ most).2.1 = ((p : Int) + (q : Int)) ∧ (l.drop p).take q = encT (takeT l at_ most).1 := by
  unfold takeT at h ⊢
  rcases takeI_cases l at_ with h0 | ⟨n, p, k, rfl, hk, -, hpk, hn, hd, h0⟩
  · rw [h0] at h; simp at h
  · obtain ⟨-, -, -, -, h5⟩ := dec_some _ _ _ hd
    rw [h0] at h ⊢
    dsimp only at h ⊢
    by_cases hc : True = False ∨ n < 0 ∨ most < n ∨ (l.length : Int) - ((p + k : Nat) : Int) < n
    · rw [if_pos (by simpa using hc)] at h; cases h
    · rw [if_neg (by simpa using hc)]
      obtain ⟨m, rfl⟩ := Int.eq_ofNat_of_zero_le (show 0 ≤ n by omega)
      simp only [Int.toNat_natCast]
      have hlen : ((l.drop (p + k)).take m).length = m := by simp; omega
      refine ⟨p, k + m, rfl, by omega, by rw [hlen]; omega, by omega, ?_⟩
      rw [encT, hlen, ← h5, List.take_add, List.drop_drop]
end Wire
open Wire
namespace Obj

def pre (p : List UInt8) : RS := ⟨p, false, p.length⟩
theorem tInt_pre (p r : List UInt8) (n lo hi : Int) (hn : In64 n) (h : inR n lo hi = true) : tInt (p ++ (enc n ++ r)) lo hi (pre p) = (n, pre (p ++ enc n)) := by
  unfold tInt pre
  rw [if_neg (by simp)]
  dsimp only
  rw [takeI_put p n r hn]
  simp [h]
theorem tText_pre (p s r : List UInt8) (lo hi : Int) (h : inR (s.length : Int) lo hi = true) (hs : s.length ≤ 140737488355328) : tText (p ++ (encT s ++ r)) lo hi (pre p) = (s, pre (p ++ encT s)) := by
  unfold tText pre
  rw [if_neg (by simp)]
  dsimp only
  have h2 := h
  simp only [inR, Bool.and_eq_true, decide_eq_true_eq] at h2
  rw [takeT_put p s r hi hs h2.2]
  simp [h]
theorem tId_pre (p s r : List UInt8) (h : s.length = 32) : tId (p ++ (s ++ r)) (pre p) = (s, pre (p ++ s)) := by
  unfold tId pre
  dsimp only
  have e : (p ++ (s ++ r)).drop ((p.length : Nat) : Int).toNat = s ++ r := by rw [Int.toNat_natCast, List.drop_left]
  have e2 : (s ++ r).take 32 = s := by rw [← h, List.take_left]
  rw [if_neg (by simp; omega), e, e2]
  simp; omega
theorem rdList_pre {α : Type} (L : List UInt8) (f : RS → α × RS) (e : α → List UInt8) : ∀ (l : List α) (p r : List UInt8) (acc : List α), L = p ++ (l.flatMap e ++ r) →
    (∀ a ∈ l, ∀ p r, L = p ++ (e a ++ r) → f (pre p) = (a, pre (p ++ e a))) → rdList f l.length (pre p) acc = (pre (p ++ l.flatMap e), acc ++ l)
  | [], p, r, acc, hL, _ => by simp [rdList]
  | a :: l, p, r, acc, hL, hf => by
    have h1 : L = p ++ (e a ++ (l.flatMap e ++ r)) := by rw [hL, List.flatMap_cons]; simp
    rw [List.length_cons, rdList_go _ _ _ _ rfl, hf a (by simp) p _ h1]
    rw [rdList_pre L f e l (p ++ e a) r (acc ++ [a]) (by rw [h1]; simp) (fun b hb => hf b (by simp [hb]))]
    simp

theorem tInt_got (L : List UInt8) (lo hi : Int) (x : RS) (h : (tInt L lo hi x).2.bad = false) : x.bad = false ∧ (tInt L lo hi x).2.l = x.l ++ enc (tInt L lo hi x).1 ∧ inR (tInt L lo hi x).1 lo hi = true := by
  unfold tInt at *
  by_cases hb : x.bad = true
  · rw [if_pos hb] at h; exact absurd h (by rw [hb]; decide)
  · rw [if_neg hb] at *
    dsimp only at *
    simp only [Bool.or_eq_false_iff, Bool.not_eq_false'] at h
    exact ⟨by simpa using hb, rfl, h.2⟩
theorem tInt_p (L : List UInt8) (lo hi : Int) (x : RS) (h : 0 ≤ x.p) : 0 ≤ (tInt L lo hi x).2.p := by
  unfold tInt
  split
  · exact h
  · exact (takeI_in L x.p).2.1
theorem tText_got (L : List UInt8) (lo hi : Int) (x : RS) (h : (tText L lo hi x).2.bad = false) : x.bad = false ∧ (tText L lo hi x).2.l = x.l ++ encT (tText L lo hi x).1 ∧ inR ((tText L lo hi x).1.length : Int) lo hi = true := by
  unfold tText at *
  by_cases hb : x.bad = true
  · rw [if_pos hb] at h; exact absurd h (by rw [hb]; decide)
  · rw [if_neg hb] at *
    dsimp only at *
    simp only [Bool.or_eq_false_iff, Bool.not_eq_false'] at h
    exact ⟨by simpa using hb, rfl, h.2⟩
theorem tText_p (L : List UInt8) (lo hi : Int) (x : RS) (h : 0 ≤ x.p) : 0 ≤ (tText L lo hi x).2.p := by
  unfold tText
  split
  · exact h
  · exact (takeT_in L x.p hi).1
theorem tId_got (L : List UInt8) (x : RS) (hp : 0 ≤ x.p) (h : (tId L x).2.bad = false) : x.bad = false ∧ (tId L x).2.l = x.l ++ (tId L x).1 ∧ (tId L x).1.length = 32 := by
  unfold tId at *
  by_cases hb : x.bad = true ∨ (L.length : Int) - x.p < 32
  · rw [if_pos hb] at h; cases h
  · rw [if_neg hb] at *
    dsimp only at *
    rw [List.length_take, List.length_drop]
    exact ⟨by cases hx : x.bad with
      | true => exact absurd (.inl hx) hb
      | false => rfl, rfl, by omega⟩
theorem tId_p (L : List UInt8) (x : RS) (h : 0 ≤ x.p) : 0 ≤ (tId L x).2.p := by
  unfold tId
  split
  · exact h
  · show 0 ≤ x.p + 32; omega
theorem rdList_got {α : Type} (f : RS → α × RS) (e : α → List UInt8) (ok : α → Bool) (hp : ∀ x, 0 ≤ x.p → 0 ≤ (f x).2.p) (hf : ∀ x, 0 ≤ x.p → (f x).2.bad = false → x.bad = false ∧ (f x).2.l = x.l ++ e (f x).1 ∧ ok (f x).1 = true) :
    ∀ (n : Nat) (x : RS) (acc : List α), 0 ≤ x.p → (rdList f n x acc).1.bad = false → x.bad = false ∧ ∃ l, (rdList f n x acc).2 = acc ++ l ∧ l.length = n ∧ (rdList f n x acc).1.l = x.l ++ l.flatMap e ∧ l.all ok = true
  | 0, x, acc, _, h => ⟨h, [], by simp [rdList]⟩
  | n + 1, x, acc, hx, h => by
    by_cases hb : x.bad = true
    · rw [rdList_stop _ _ _ _ (.inr hb)] at h; rw [hb] at h; cases h
    · have hb0 : x.bad = false := by simpa using hb
      rw [rdList_go _ _ _ _ hb0] at h ⊢
      obtain ⟨h1, l, h2, h3, h4, h5⟩ := rdList_got f e ok hp hf n _ _ (hp x hx) h
      obtain ⟨_, h6, h7⟩ := hf x hx h1
      refine ⟨hb0, (f x).1 :: l, by rw [h2]; simp, by simp [h3], by rw [h4, h6]; simp, by simp [h7, h5]⟩

/-! fans -/
theorem partB_pre (L : List UInt8) (a : Part) (ha : partOk a = true) (p r : List UInt8) (hs : In64 a.size) (hL : L = p ++ (partB a ++ r)) : rdPart L (pre p) = (a, pre (p ++ partB a)) := by
  simp only [partOk, Bool.and_eq_true, decide_eq_true_eq] at ha
  have e : a.id.data.toList.length = 32 := by rw [← ha.1]; simp
  have h1 : tId L (pre p) = (a.id.data.toList, pre (p ++ a.id.data.toList)) := by rw [hL, partB, List.append_assoc]; exact tId_pre p _ _ e
  have h2 : tInt L 1 262144 (pre (p ++ a.id.data.toList)) = (a.size, pre (p ++ a.id.data.toList ++ enc a.size)) := by
    rw [hL, partB, show p ++ (a.id.data.toList ++ enc a.size ++ r) = (p ++ a.id.data.toList) ++ (enc a.size ++ r) by simp]
    exact tInt_pre _ _ _ _ _ hs ha.2
  unfold rdPart
  rw [h1]; dsimp only; rw [h2]
  simp [partB]
theorem rdPart_got (L : List UInt8) (x : RS) (hp : 0 ≤ x.p) (h : (rdPart L x).2.bad = false) : x.bad = false ∧ (rdPart L x).2.l = x.l ++ partB (rdPart L x).1 ∧ partOk (rdPart L x).1 = true := by
  obtain ⟨h1, h2, h3⟩ := tInt_got L 1 262144 (tId L x).2 h
  obtain ⟨h4, h5, h6⟩ := tId_got L x hp h1
  refine ⟨h4, ?_, ?_⟩
  · show (tInt L 1 262144 (tId L x).2).2.l = _
    rw [h2, h5]; simp [partB, rdPart]
  · unfold partOk
    rw [show inR (rdPart L x).1.size 1 262144 = true from h3, Bool.and_true, decide_eq_true_eq]
    exact h6
theorem rdPart_p (L : List UInt8) (x : RS) (h : 0 ≤ x.p) : 0 ≤ (rdPart L x).2.p := tInt_p L 1 262144 _ (tId_p L x h)

theorem ask_bad {x : RS} {ok : Bool} (h : (x.ask ok).bad = false) : x.bad = false ∧ ok = true := by
  unfold RS.ask at h
  simpa using h
theorem fan_sound (L : List UInt8) (h : okFan L = true) : L = fanB (fanL L) (rdFan L).2 ∧ rightFan (fanL L) (rdFan L).2 = true := by
  unfold okFan wholeB at h
  rw [Bool.and_eq_true, decide_eq_true_eq] at h
  obtain ⟨hb, hl⟩ := h
  obtain ⟨hb1, hcap⟩ := ask_bad (by simpa using hb)
  have hp1 := tInt_p L 1 20 ⟨[0x46], false, 1⟩ (by show (0:Int) ≤ 1; omega)
  have hp2 := tInt_p L 1 32 _ hp1
  obtain ⟨hb2, l, h2, h3, h4, h5⟩ := rdList_got (rdPart L) partB partOk (rdPart_p L) (rdPart_got L) _ _ [] hp2 hb1
  obtain ⟨hb3, h6, h7⟩ := tInt_got _ _ _ _ hb2
  obtain ⟨_, h8, h9⟩ := tInt_got _ _ _ _ hb3
  have hk : (rdFan L).2 = l := by rw [show rdFan L = _ from rfl]; simpa [rdFan] using h2
  have hx : (rdFan L).1.l = L := hl
  have hn : (tInt L 1 32 (tInt L 1 20 ⟨[0x46], false, 1⟩).2).1 = (l.length : Int) := by
    simp only [inR, Bool.and_eq_true, decide_eq_true_eq] at h7
    omega
  rw [hk]
  constructor
  · refine hx.symm.trans ?_
    show (rdList _ _ _ _).1.l = _
    rw [h4, h6, h8, hn]
    simp [fanB, fanL]
  · unfold rightFan
    rw [hk] at hcap
    rw [capSum_le 262144 (by omega) _ (by
      intro s hs
      obtain ⟨p, hp, rfl⟩ := List.mem_map.1 hs
      have := List.all_eq_true.1 h5 p hp
      simp only [partOk, inR, Bool.and_eq_true, decide_eq_true_eq] at this
      omega)] at hcap
    rw [hn] at h7
    rw [hcap, h5, h7]
    show (inR (fanL L) 1 20 && true && true && true) = true
    rw [show inR (fanL L) 1 20 = true from h9]; rfl
theorem fan_pre (level : Int) (kids : List Part) (h : rightFan level kids = true) : fanL (fanB level kids) = level ∧ rdFan (fanB level kids) = (pre (fanB level kids), kids) := by
  simp only [rightFan, Bool.and_eq_true] at h
  obtain ⟨⟨⟨h1, h2⟩, h3⟩, h4⟩ := h
  have i1 : In64 level := by simp only [inR, Bool.and_eq_true, decide_eq_true_eq] at h1; unfold In64; omega
  have i2 : In64 (kids.length : Int) := by simp only [inR, Bool.and_eq_true, decide_eq_true_eq] at h2; unfold In64; omega
  obtain ⟨L, hL⟩ : ∃ L, L = fanB level kids := ⟨_, rfl⟩
  have e0 : (⟨[0x46], false, 1⟩ : RS) = pre [0x46] := rfl
  have e1 : tInt L 1 20 (pre [0x46]) = (level, pre ([0x46] ++ enc level)) := by
    rw [hL]; exact tInt_pre [0x46] (enc (kids.length : Int) ++ kids.flatMap partB) level 1 20 i1 h1
  have e2 : tInt L 1 32 (pre ([0x46] ++ enc level)) = ((kids.length : Int), pre ([0x46] ++ enc level ++ enc (kids.length : Int))) := by
    rw [hL, show fanB level kids = ([0x46] ++ enc level) ++ (enc (kids.length : Int) ++ kids.flatMap partB) by simp [fanB]]
    exact tInt_pre _ _ _ 1 32 i2 h2
  have e3 := rdList_pre L (rdPart L) partB kids ([0x46] ++ enc level ++ enc (kids.length : Int)) [] [] (by rw [hL]; simp [fanB]) (fun a ha p r hp => by
    have hok := List.all_eq_true.1 h3 a ha
    have hok2 := hok
    simp only [partOk, inR, Bool.and_eq_true, decide_eq_true_eq] at hok2
    exact partB_pre L a hok p r (by unfold In64; omega) hp)
  have e4 : [0x46] ++ enc level ++ enc (kids.length : Int) ++ kids.flatMap partB = L := by rw [hL]; simp [fanB]
  rw [e4] at e3
  rw [← hL]
  unfold fanL rdFan
  rw [e0, e1]; dsimp only
  rw [e2]; dsimp only
  rw [Int.toNat_natCast, e3]
  exact ⟨rfl, rfl⟩
theorem fan_complete (level : Int) (kids : List Part) (h : rightFan level kids = true) : okFan (fanB level kids) = true ∧ outFan (fanB level kids) = (level, kids) := by
  obtain ⟨h1, h2⟩ := fan_pre level kids h
  simp only [rightFan, Bool.and_eq_true] at h
  have hok : okFan (fanB level kids) = true := by
    unfold okFan
    rw [h2]
    dsimp only
    rw [capSum_le 262144 (by omega) _ (by
      intro s hs
      obtain ⟨p, hp, rfl⟩ := List.mem_map.1 hs
      have := List.all_eq_true.1 h.1.2 p hp
      simp only [partOk, inR, Bool.and_eq_true, decide_eq_true_eq] at this
      omega), h.2]
    simp [wholeB, RS.ask, pre]
  exact ⟨hok, by unfold outFan; rw [if_pos hok, h1, h2]⟩
end Obj
end Go.Proofs.YtpoljpjcmigobaaDoor
/- Plain laws: the reference's reader; both readers of fans agree. -/
namespace Go.Proofs.YtpoljpjcmigobaaDoor
set_option linter.unusedVariables false
set_option linter.unusedSimpArgs false
open Go.RowKit K Wire
namespace Obj

def gpre (p : List UInt8) : RR := ⟨false, p.length⟩
theorem gInt_pre (p r : List UInt8) (n : Int) (hn : In64 n) : gInt (p ++ (enc n ++ r)) (gpre p) = (n, gpre (p ++ enc n)) := by
  unfold gInt gpre
  rw [if_neg (by simp)]
  dsimp only
  rw [takeI_put p n r hn]
  simp
theorem gText_pre (p s r : List UInt8) (most : Int) (h : (s.length : Int) ≤ most) (hs : s.length ≤ 140737488355328) : gText (p ++ (encT s ++ r)) most (gpre p) = (s, gpre (p ++ encT s)) := by
  unfold gText gpre
  rw [if_neg (by simp)]
  dsimp only
  rw [takeT_put p s r most hs h]
  simp
theorem gId_pre (p s r : List UInt8) (h : s.length = 32) : gId (p ++ (s ++ r)) (gpre p) = (s, gpre (p ++ s)) := by
  unfold gId gpre
  dsimp only
  have e : (p ++ (s ++ r)).drop ((p.length : Nat) : Int).toNat = s ++ r := by rw [Int.toNat_natCast, List.drop_left]
  have e2 : (s ++ r).take 32 = s := by rw [← h, List.take_left]
  rw [if_neg (by simp; omega), e, e2]
  simp; omega
theorem gCount_pre (p r : List UInt8) (n most : Int) (hn : In64 n) (h0 : 0 ≤ n) (h1 : n ≤ most) : gCount (p ++ (enc n ++ r)) most (gpre p) = (n, gpre (p ++ enc n)) := by
  unfold gCount
  rw [gInt_pre p r n hn, if_neg (by dsimp only; omega)]
theorem gList_pre {α : Type} (L : List UInt8) (f : RR → α × RR) (e : α → List UInt8) : ∀ (l : List α) (p r : List UInt8) (acc : List α), L = p ++ (l.flatMap e ++ r) →
    (∀ a ∈ l, ∀ p r, L = p ++ (e a ++ r) → f (gpre p) = (a, gpre (p ++ e a))) → gList f l.length (gpre p) acc = (gpre (p ++ l.flatMap e), acc ++ l)
  | [], p, r, acc, hL, _ => by simp [gList]
  | a :: l, p, r, acc, hL, hf => by
    have h1 : L = p ++ (e a ++ (l.flatMap e ++ r)) := by rw [hL, List.flatMap_cons]; simp
    rw [List.length_cons, gList_go _ _ _ _ rfl, hf a (by simp) p _ h1]
    rw [gList_pre L f e l (p ++ e a) r (acc ++ [a]) (by rw [h1]; simp) (fun b hb => hf b (by simp [hb]))]
    simp

/-- the bytes that were read -/
def Stand (L : List UInt8) (x : RR) (bs : List UInt8) : Prop := x.p = bs.length ∧ ∃ r, L = bs ++ r
theorem take_step {L bs t : List UInt8} {q : Nat} (hL : ∃ r, L = bs ++ r) (h1 : bs.length + q ≤ L.length) (h : (L.drop bs.length).take q = t) : t.length = q ∧ ∃ r, L = (bs ++ t) ++ r := by
  obtain ⟨r, rfl⟩ := hL
  rw [List.drop_left] at h
  rw [List.length_append] at h1
  refine ⟨by rw [← h, List.length_take]; omega, r.drop q, ?_⟩
  rw [← h, List.append_assoc, List.take_append_drop]
theorem gInt_got (L : List UInt8) (x : RR) (h : (gInt L x).2.bad = false) : x.bad = false ∧ ∀ bs, Stand L x bs → Stand L (gInt L x).2 (bs ++ enc (gInt L x).1) := by
  unfold gInt at *
  by_cases hb : x.bad = true
  · rw [if_pos hb] at h; rw [hb] at h; cases h
  · rw [if_neg hb] at *
    dsimp only at *
    refine ⟨by simpa using hb, fun bs ⟨h1, h2⟩ => ?_⟩
    obtain ⟨p, q, h3, h4, _, h5, h6⟩ := takeI_back L x.p (by simpa using h)
    obtain rfl : p = bs.length := by omega
    obtain ⟨h7, h8⟩ := take_step h2 h4 h6
    exact ⟨by dsimp only; rw [h5, List.length_append, h7]; omega, h8⟩
theorem gText_got (L : List UInt8) (most : Int) (x : RR) (h : (gText L most x).2.bad = false) : x.bad = false ∧ ∀ bs, Stand L x bs → Stand L (gText L most x).2 (bs ++ encT (gText L most x).1) := by
  unfold gText at *
  by_cases hb : x.bad = true
  · rw [if_pos hb] at h; rw [hb] at h; cases h
  · rw [if_neg hb] at *
    dsimp only at *
    refine ⟨by simpa using hb, fun bs ⟨h1, h2⟩ => ?_⟩
    obtain ⟨p, q, h3, h4, _, h5, h6⟩ := takeT_back L x.p most (by simpa using h)
    obtain rfl : p = bs.length := by omega
    obtain ⟨h7, h8⟩ := take_step h2 h4 h6
    exact ⟨by dsimp only; rw [h5, List.length_append, h7]; omega, h8⟩
theorem gId_got (L : List UInt8) (x : RR) (h : (gId L x).2.bad = false) : x.bad = false ∧ ∀ bs, Stand L x bs → Stand L (gId L x).2 (bs ++ (gId L x).1) := by
  unfold gId at *
  by_cases hb : x.bad = true ∨ (L.length : Int) - x.p < 32
  · rw [if_pos hb] at h; cases h
  · rw [if_neg hb] at *
    dsimp only at *
    refine ⟨by cases hx : x.bad with
      | true => exact absurd (.inl hx) hb
      | false => rfl, fun bs ⟨h1, h2⟩ => ?_⟩
    rw [h1, Int.toNat_natCast]
    obtain ⟨h7, h8⟩ := take_step (q := 32) h2 (by omega) rfl
    exact ⟨by dsimp only; rw [List.length_append, h7]; omega, h8⟩
theorem gCount_got (L : List UInt8) (most : Int) (x : RR) (h : (gCount L most x).2.bad = false) : x.bad = false ∧ 0 ≤ (gCount L most x).1 ∧ (gCount L most x).1 ≤ most ∧ ∀ bs, Stand L x bs → Stand L (gCount L most x).2 (bs ++ enc (gCount L most x).1) := by
  unfold gCount at *
  by_cases hb : (gInt L x).1 < 0 ∨ most < (gInt L x).1
  · rw [if_pos hb] at h; cases h
  · rw [if_neg hb] at *
    obtain ⟨h1, h2⟩ := gInt_got L x h
    exact ⟨h1, by omega, by omega, h2⟩
theorem gList_got {α : Type} (L : List UInt8) (f : RR → α × RR) (e : α → List UInt8) (hf : ∀ x, (f x).2.bad = false → x.bad = false ∧ ∀ bs, Stand L x bs → Stand L (f x).2 (bs ++ e (f x).1)) :
    ∀ (n : Nat) (x : RR) (acc : List α), (gList f n x acc).1.bad = false → x.bad = false ∧ ∃ l, (gList f n x acc).2 = acc ++ l ∧ l.length = n ∧ ∀ bs, Stand L x bs → Stand L (gList f n x acc).1 (bs ++ l.flatMap e)
  | 0, x, acc, h => ⟨h, [], by simp [gList]⟩
  | n + 1, x, acc, h => by
    by_cases hb : x.bad = true
    · rw [gList_stop _ _ _ _ (.inr hb)] at h; rw [hb] at h; cases h
    · have hb0 : x.bad = false := by simpa using hb
      rw [gList_go _ _ _ _ hb0] at h ⊢
      obtain ⟨h1, l, h2, h3, h4⟩ := gList_got L f e hf n _ _ h
      obtain ⟨_, h6⟩ := hf x h1
      refine ⟨hb0, (f x).1 :: l, by rw [h2]; simp, by simp [h3], fun bs hbs => ?_⟩
      rw [List.flatMap_cons, ← List.append_assoc]
      exact h4 _ (h6 bs hbs)
theorem begun_got {L : List UInt8} {m : UInt8} (h : begunBad L m = false) : Stand L ⟨begunBad L m, 1⟩ [m] := by
  unfold begunBad at h
  have h1 : L.head? = some m := by simpa using h
  cases L with
  | nil => cases h1
  | cons a l => obtain rfl : a = m := by simpa using h1
                exact ⟨rfl, l, rfl⟩
theorem gEnds_got {L : List UInt8} {x : RR} {bs : List UInt8} (h : gEnds L x = true) (hs : x.bad = false → Stand L x bs) : L = bs := by
  unfold gEnds at h
  simp only [Bool.and_eq_true, Bool.not_eq_true', decide_eq_true_eq] at h
  obtain ⟨h1, r, h2⟩ := hs h.1
  have h3 := congrArg List.length h2
  rw [List.length_append] at h3
  have : r.length = 0 := by omega
  rw [List.eq_nil_of_length_eq_zero this, List.append_nil] at h2
  exact h2
theorem begunBad_no (m : UInt8) (l : List UInt8) : begunBad (m :: l) m = false := by simp [begunBad]

/-! fans -/
theorem gPart_pre (L : List UInt8) (a : Part) (ha : partOk a = true) (p r : List UInt8) (hs : In64 a.size) (hL : L = p ++ (partB a ++ r)) : gPart L (gpre p) = (a, gpre (p ++ partB a)) := by
  simp only [partOk, Bool.and_eq_true, decide_eq_true_eq] at ha
  have e : a.id.data.toList.length = 32 := by rw [← ha.1]; simp
  have h1 : gId L (gpre p) = (a.id.data.toList, gpre (p ++ a.id.data.toList)) := by rw [hL, partB, List.append_assoc]; exact gId_pre p _ _ e
  have h2 : gInt L (gpre (p ++ a.id.data.toList)) = (a.size, gpre (p ++ a.id.data.toList ++ enc a.size)) := by
    rw [hL, partB, show p ++ (a.id.data.toList ++ enc a.size ++ r) = (p ++ a.id.data.toList) ++ (enc a.size ++ r) by simp]
    exact gInt_pre _ _ _ hs
  unfold gPart
  rw [h1]; dsimp only; rw [h2]
  simp [partB]
theorem gPart_got (L : List UInt8) (x : RR) (h : (gPart L x).2.bad = false) : x.bad = false ∧ ∀ bs, Stand L x bs → Stand L (gPart L x).2 (bs ++ partB (gPart L x).1) := by
  obtain ⟨h1, h2⟩ := gInt_got L (gId L x).2 h
  obtain ⟨h3, h4⟩ := gId_got L x h1
  refine ⟨h3, fun bs hbs => ?_⟩
  have := h2 _ (h4 bs hbs)
  rw [List.append_assoc] at this
  exact this
theorem gfan_sound (L : List UInt8) (h : gokFan L = true) : L = fanB (gfanL L) (gFan L).2 ∧ rightFan (gfanL L) (gFan L).2 = true := by
  unfold gokFan at h
  rw [Bool.and_eq_true] at h
  refine ⟨?_, h.2⟩
  have hb : (gFan L).1.bad = false := by
    have := h.1; unfold gEnds at this
    simp only [Bool.and_eq_true, Bool.not_eq_true'] at this
    exact this.1
  obtain ⟨hb1, l, h2, h3, h4⟩ := gList_got L (gPart L) partB (gPart_got L) _ _ [] hb
  obtain ⟨hb2, h5, h6, h7⟩ := gCount_got L 32 _ hb1
  obtain ⟨hb3, h8⟩ := gInt_got L _ hb2
  have h9 := h4 _ (h7 _ (h8 _ (begun_got hb3)))
  have hk : (gFan L).2 = l := by simpa [gFan] using h2
  have hn : (gCount L 32 (gInt L ⟨begunBad L 0x46, 1⟩).2).1 = (l.length : Int) := by omega
  refine (gEnds_got h.1 (fun _ => h9)).trans ?_
  rw [hk, hn]
  simp [fanB, gfanL]
theorem gfan_complete (level : Int) (kids : List Part) (h : rightFan level kids = true) : gokFan (fanB level kids) = true ∧ goutFan (fanB level kids) = (level, kids) := by
  have h0 := h
  simp only [rightFan, Bool.and_eq_true] at h
  obtain ⟨⟨⟨h1, h2⟩, h3⟩, h4⟩ := h
  simp only [inR, Bool.and_eq_true, decide_eq_true_eq] at h1 h2
  obtain ⟨L, hL⟩ : ∃ L, L = fanB level kids := ⟨_, rfl⟩
  have e0 : (⟨begunBad L 0x46, 1⟩ : RR) = gpre [0x46] := by rw [hL, fanB, begunBad_no]; rfl
  have e1 : gInt L (gpre [0x46]) = (level, gpre ([0x46] ++ enc level)) := by
    rw [hL]; exact gInt_pre [0x46] (enc (kids.length : Int) ++ kids.flatMap partB) level (by unfold In64; omega)
  have e2 : gCount L 32 (gpre ([0x46] ++ enc level)) = ((kids.length : Int), gpre ([0x46] ++ enc level ++ enc (kids.length : Int))) := by
    rw [hL, show fanB level kids = ([0x46] ++ enc level) ++ (enc (kids.length : Int) ++ kids.flatMap partB) by simp [fanB]]
    exact gCount_pre _ _ _ 32 (by unfold In64; omega) (by omega) (by omega)
  have e3 := gList_pre L (gPart L) partB kids ([0x46] ++ enc level ++ enc (kids.length : Int)) [] [] (by rw [hL]; simp [fanB]) (fun a ha p r hp => by
    have hok := List.all_eq_true.1 h3 a ha
    have hok2 := hok
    simp only [partOk, inR, Bool.and_eq_true, decide_eq_true_eq] at hok2
    exact gPart_pre L a hok p r (by unfold In64; omega) hp)
  have e4 : [0x46] ++ enc level ++ enc (kids.length : Int) ++ kids.flatMap partB = L := by rw [hL]; simp [fanB]
  rw [e4] at e3
  rw [← hL]
  have f1 : gfanL L = level := by unfold gfanL; rw [e0, e1]
  have f2 : gFan L = (gpre L, kids) := by
    unfold gFan
    rw [e0, e1]; dsimp only
    rw [e2]; dsimp only
    rw [Int.toNat_natCast, e3]; rfl
  have hok : gokFan L = true := by
    unfold gokFan
    rw [f1, f2]
    dsimp only
    rw [h0]
    simp [gEnds, gpre]
  exact ⟨hok, by unfold goutFan; rw [if_pos hok, f1, f2]⟩
theorem fans_agree (L : List UInt8) : okFan L = gokFan L ∧ outFan L = goutFan L := by
  cases h : okFan L with
  | true =>
    obtain ⟨h1, h2⟩ := fan_sound L h
    obtain ⟨h3, h4⟩ := fan_complete _ _ h2
    obtain ⟨h5, h6⟩ := gfan_complete _ _ h2
    rw [← h1] at h4 h5 h6
    exact ⟨h5.symm, h4.trans h6.symm⟩
  | false =>
    cases h' : gokFan L with
    | true =>
      obtain ⟨h1, h2⟩ := gfan_sound L h'
      have h3 := (fan_complete _ _ h2).1
      rw [← h1, h] at h3; cases h3
    | false => exact ⟨rfl, by unfold outFan goutFan; rw [h, h', if_neg (by decide), if_neg (by decide)]⟩
end Obj
end Go.Proofs.YtpoljpjcmigobaaDoor
/- Opening an argument that is a struct with a slice of structs. -/
namespace Go.Proofs.YtpoljpjcmigobaaDoor
set_option linter.unusedVariables false
set_option linter.unusedSimpArgs false
open Go.RowKit Go.ChangeShapes Go.WideShapes Go.Deep
namespace K
open Wire
open Go.Proofs.YtpoljpjcmigobaaDoor.Obj

theorem in64_wf {n : Int} (h : (Lit.int .i64 n).wf = true) : In64 n := by
  unfold In64
  simp only [Lit.wf, Bool.and_eq_true, decide_eq_true_eq, IntKind.min, IntKind.max, IntKind.bits, IntKind.signed] at h
  simp at h
  omega

theorem bulk_app {H : Type} : ∀ (x y : List (DataW H)), Rows.uptoBulkAll (x ++ y) = Rows.uptoBulkAll x + Rows.uptoBulkAll y := fun x y => by
  induction x with
  | nil => simp [Rows.uptoBulkAll]
  | cons a x ih => simp only [List.cons_append, Rows.uptoBulkAll, ih]; omega

theorem fanB_len (level : Int) (kids : List Part) (hlv : In64 level) (hs : ∀ p ∈ kids, In64 p.size) (h : (kids.map fun p => p.id.size + 1).sum + kids.length ≤ 1048576) : (fanB level kids).length ≤ 100000000 := by
  have h1 : ∀ l : List Part, (∀ p ∈ l, In64 p.size) → (l.flatMap partB).length ≤ (l.map fun p => p.id.size + 1).sum + 9 * l.length := by
    intro l
    induction l with
    | nil => intro _; simp
    | cons a l ih =>
      intro hs
      have := ih fun p hp => hs p (by simp [hp])
      have := enc_len a.size (hs a (by simp))
      have e : a.id.data.toList.length = a.id.size := by simp
      rw [List.flatMap_cons, List.length_append, List.map_cons, List.sum_cons, List.length_cons]
      simp only [partB, List.length_append]
      omega
  have h2 := h1 kids hs
  have := enc_len level hlv
  have := enc_len (kids.length : Int) (by unfold In64; omega)
  simp only [fanB, List.length_cons, List.length_append]
  omega
end K
end Go.Proofs.YtpoljpjcmigobaaDoor
