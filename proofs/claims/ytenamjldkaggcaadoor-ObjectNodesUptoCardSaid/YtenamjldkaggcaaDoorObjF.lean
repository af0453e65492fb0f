/- Plain laws of objects: what a writer puts, and when it is right. -/
import Derived.Test.YtenamjldkaggcaaDoorObjT
namespace Go.Proofs.YtenamjldkaggcaaDoor
set_option linter.unusedVariables false
set_option linter.unusedSimpArgs false
open Go.RowKit K Wire
namespace Obj

structure W where
  l : List UInt8
  bad : Bool
def W.int (n lo hi : Int) (x : W) : W := ⟨x.l ++ enc n, x.bad || !inR n lo hi⟩
def W.text (s : ByteArray) (lo hi : Int) (x : W) : W := ⟨x.l ++ encT s.data.toList, x.bad || !inR (s.size : Int) lo hi⟩
def W.id (s : ByteArray) (x : W) : W := ⟨x.l ++ s.data.toList, x.bad || !decide (s.size = 32)⟩
def W.ask (ok : Bool) (x : W) : W := ⟨x.l, x.bad || !ok⟩

theorem cap_sum (most : Int) (hm : 0 ≤ most) : ∀ (l : List Int) (n : Int), (∀ s ∈ l, 0 ≤ s) → 0 ≤ n → n ≤ most + 1 → l.foldl (capStep most) n = min (n + l.sum) (most + 1)
  | [], n, _, h0, h1 => by simp; omega
  | s :: l, n, hs, h0, h1 => by
    rw [List.foldl_cons, List.sum_cons]
    have h2 := hs s (by simp)
    have hl : ∀ (l : List Int), (∀ s ∈ l, 0 ≤ s) → 0 ≤ l.sum := fun l => by
      induction l with
      | nil => intro _; simp
      | cons a l ih => intro h; rw [List.sum_cons]; have := ih (fun s hs => h s (by simp [hs])); have := h a (by simp); omega
    have h3 := hl l (fun s h => hs s (by simp [h]))
    have hci := capStep_in most n s hm h0 h1
    rw [cap_sum most hm l _ (fun s h => hs s (by simp [h])) hci.1 hci.2]
    unfold capStep
    omega
theorem capSum_le (most : Int) (hm : 0 ≤ most) (l : List Int) (hs : ∀ s ∈ l, 0 ≤ s) : decide (capSum most l ≤ most) = decide (l.sum ≤ most) := by
  unfold capSum
  rw [cap_sum most hm l 0 hs (by omega) (by omega)]
  congr 1
  rw [eq_iff_iff]
  omega

/-- what is put one behind the other -/
theorem fold_l {α : Type} (f : α → W → W) (enc1 : α → List UInt8) (hf : ∀ a x, (f a x).l = x.l ++ enc1 a) : ∀ (l : List α) (x : W), (l.foldl (fun x a => f a x) x).l = x.l ++ l.flatMap enc1
  | [], x => by simp
  | a :: l, x => by rw [List.foldl_cons, fold_l f enc1 hf l, hf, List.flatMap_cons, List.append_assoc]
theorem fold_bad {α : Type} (f : α → W → W) (ok : α → Bool) (hf : ∀ a x, (f a x).bad = (x.bad || !ok a)) : ∀ (l : List α) (x : W), (l.foldl (fun x a => f a x) x).bad = (x.bad || !l.all ok)
  | [], x => by simp
  | a :: l, x => by
    rw [List.foldl_cons, fold_bad f ok hf l, hf, List.all_cons]
    cases x.bad <;> cases ok a <;> simp
theorem take_fold {α : Type} (f : α → W → W) (l : List α) (x : W) (k : Nat) (h : k < l.length) : (l.take (k + 1)).foldl (fun x a => f a x) x = f l[k] ((l.take k).foldl (fun x a => f a x) x) := by
  rw [List.take_succ_eq_append_getElem h, List.foldl_append]; rfl

/-! fans -/
def partW (p : Part) (x : W) : W := W.int p.size 1 262144 (W.id p.id x)
def partB (p : Part) : List UInt8 := p.id.data.toList ++ enc p.size
def partOk (p : Part) : Bool := decide (p.id.size = 32) && inR p.size 1 262144
def fanW0 (level : Int) (kids : List Part) : W := W.int (kids.length : Int) 1 32 (W.int level 1 20 ⟨[0x46], false⟩)
def fanW (level : Int) (kids : List Part) : W := W.ask (decide (capSum 262144 (kids.map (·.size)) ≤ 262144)) (kids.foldl (fun x a => partW a x) (fanW0 level kids))
def fanB (level : Int) (kids : List Part) : List UInt8 := 0x46 :: (enc level ++ (enc (kids.length : Int) ++ kids.flatMap partB))
def rightFan (level : Int) (kids : List Part) : Bool := inR level 1 20 && inR (kids.length : Int) 1 32 && kids.all partOk && decide ((kids.map (·.size)).sum ≤ 262144)
theorem partW_l (p : Part) (x : W) : (partW p x).l = x.l ++ partB p := by simp [partW, W.int, W.id, partB]
theorem partW_bad (p : Part) (x : W) : (partW p x).bad = (x.bad || !partOk p) := by
  simp only [partW, W.int, W.id, partOk]; cases x.bad <;> cases decide (p.id.size = 32) <;> simp
theorem fanW_l (level : Int) (kids : List Part) : (fanW level kids).l = fanB level kids := by
  unfold fanW W.ask; dsimp only
  rw [fold_l partW partB partW_l]; simp [fanW0, W.int, fanB]
theorem fanW_bad (level : Int) (kids : List Part) : (fanW level kids).bad = !rightFan level kids := by
  unfold fanW W.ask; dsimp only
  rw [fold_bad partW partOk partW_bad]
  have h0 : (fanW0 level kids).bad = (!inR level 1 20 || !inR (kids.length : Int) 1 32) := by simp [fanW0, W.int]
  rw [h0]
  unfold rightFan
  cases hall : kids.all partOk with
  | false => cases inR level 1 20 <;> cases inR (kids.length : Int) 1 32 <;> simp
  | true =>
    have hs : ∀ s ∈ kids.map (·.size), 0 ≤ s := by
      intro s hs
      obtain ⟨p, hp, rfl⟩ := List.mem_map.1 hs
      have := List.all_eq_true.1 hall p hp
      simp only [partOk, inR, Bool.and_eq_true, decide_eq_true_eq] at this
      omega
    rw [capSum_le 262144 (by omega) _ hs]
    cases inR level 1 20 <;> cases inR (kids.length : Int) 1 32 <;> simp

/-! leaves -/
def pairW (p : Pair) (x : W) : W := W.text p.val 0 128 (W.text p.key 1 64 x)
def pairB (p : Pair) : List UInt8 := encT p.key.data.toList ++ encT p.val.data.toList
def pairOk (p : Pair) : Bool := inR (p.key.size : Int) 1 64 && inR (p.val.size : Int) 0 128
def leafW0 (pairs : List Pair) : W := W.int (pairs.length : Int) 0 64 ⟨[0x4c], false⟩
def leafW (pairs : List Pair) : W := W.ask (rises (pairs.map (·.key))) (pairs.foldl (fun x a => pairW a x) (leafW0 pairs))
def leafB (pairs : List Pair) : List UInt8 := 0x4c :: (enc (pairs.length : Int) ++ pairs.flatMap pairB)
def rightLeaf (pairs : List Pair) : Bool := inR (pairs.length : Int) 0 64 && pairs.all pairOk && rises (pairs.map (·.key))
theorem pairW_l (p : Pair) (x : W) : (pairW p x).l = x.l ++ pairB p := by simp [pairW, W.text, pairB]
theorem pairW_bad (p : Pair) (x : W) : (pairW p x).bad = (x.bad || !pairOk p) := by
  simp only [pairW, W.text, pairOk]; cases x.bad <;> cases inR (p.key.size : Int) 1 64 <;> simp
theorem leafW_l (pairs : List Pair) : (leafW pairs).l = leafB pairs := by
  unfold leafW W.ask; dsimp only
  rw [fold_l pairW pairB pairW_l]; simp [leafW0, W.int, leafB]
theorem leafW_bad (pairs : List Pair) : (leafW pairs).bad = !rightLeaf pairs := by
  unfold leafW W.ask; dsimp only
  rw [fold_bad pairW pairOk pairW_bad]
  have h0 : (leafW0 pairs).bad = !inR (pairs.length : Int) 0 64 := by simp [leafW0, W.int]
  rw [h0]
  unfold rightLeaf
  cases pairs.all pairOk <;> cases inR (pairs.length : Int) 0 64 <;> simp

/-! branches -/
def linkW (p : Link) (x : W) : W := W.int p.many 1 4096 (W.id p.id (W.text p.last 1 64 x))
def linkB (p : Link) : List UInt8 := encT p.last.data.toList ++ (p.id.data.toList ++ enc p.many)
def linkOk (p : Link) : Bool := inR (p.last.size : Int) 1 64 && decide (p.id.size = 32) && inR p.many 1 4096
def branchW0 (level : Int) (kids : List Link) : W := W.int (kids.length : Int) 1 64 (W.int level 1 20 ⟨[0x42], false⟩)
def branchW (level : Int) (kids : List Link) : W := W.ask (decide (capSum 4096 (kids.map (·.many)) ≤ 4096)) (W.ask (rises (kids.map (·.last))) (kids.foldl (fun x a => linkW a x) (branchW0 level kids)))
def branchB (level : Int) (kids : List Link) : List UInt8 := 0x42 :: (enc level ++ (enc (kids.length : Int) ++ kids.flatMap linkB))
def rightBranch (level : Int) (kids : List Link) : Bool := inR level 1 20 && inR (kids.length : Int) 1 64 && kids.all linkOk && rises (kids.map (·.last)) && decide ((kids.map (·.many)).sum ≤ 4096)
theorem linkW_l (p : Link) (x : W) : (linkW p x).l = x.l ++ linkB p := by simp [linkW, W.int, W.id, W.text, linkB]
theorem linkW_bad (p : Link) (x : W) : (linkW p x).bad = (x.bad || !linkOk p) := by
  simp only [linkW, W.int, W.id, W.text, linkOk]; cases x.bad <;> cases decide (p.id.size = 32) <;> cases inR (p.last.size : Int) 1 64 <;> simp
theorem branchW_l (level : Int) (kids : List Link) : (branchW level kids).l = branchB level kids := by
  unfold branchW W.ask; dsimp only
  rw [fold_l linkW linkB linkW_l]; simp [branchW0, W.int, branchB]
theorem branchW_bad (level : Int) (kids : List Link) : (branchW level kids).bad = !rightBranch level kids := by
  unfold branchW W.ask; dsimp only
  rw [fold_bad linkW linkOk linkW_bad]
  have h0 : (branchW0 level kids).bad = (!inR level 1 20 || !inR (kids.length : Int) 1 64) := by simp [branchW0, W.int]
  rw [h0]
  unfold rightBranch
  cases hall : kids.all linkOk with
  | false => cases inR level 1 20 <;> cases inR (kids.length : Int) 1 64 <;> simp
  | true =>
    have hs : ∀ s ∈ kids.map (·.many), 0 ≤ s := by
      intro s hs
      obtain ⟨p, hp, rfl⟩ := List.mem_map.1 hs
      have := List.all_eq_true.1 hall p hp
      simp only [linkOk, inR, Bool.and_eq_true, decide_eq_true_eq] at this
      omega
    rw [capSum_le 4096 (by omega) _ hs]
    cases inR level 1 20 <;> cases inR (kids.length : Int) 1 64 <;> cases rises (kids.map (·.last)) <;> simp
end Obj
end Go.Proofs.YtenamjldkaggcaaDoor
