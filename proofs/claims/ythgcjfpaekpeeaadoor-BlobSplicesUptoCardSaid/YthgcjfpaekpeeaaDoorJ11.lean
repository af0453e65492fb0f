/- Joined texts: ObjS, ObjT, ObjF. -/
import Derived.Test.YthgcjfpaekpeeaaDoorJ10
import Derived.WalkLawsBesides
/- Lists of structs in memory; the walks of object's sum and rising. -/
namespace Go.Proofs.YthgcjfpaekpeeaaDoor
set_option linter.unusedVariables false
set_option linter.unusedSimpArgs false
open Go.RowKit K Wire
namespace Obj

theorem flat_len {α : Type} {f : α → List Value} {k : Nat} (hf : ∀ a, (f a).length = k) : ∀ l : List α, (l.flatMap f).length = l.length * k
  | [] => by simp
  | a :: l => by rw [List.flatMap_cons, List.length_append, hf, flat_len hf l, List.length_cons, Nat.succ_mul]; omega
theorem flat_get {α : Type} {f : α → List Value} {k : Nat} (hf : ∀ a, (f a).length = k) : ∀ (l : List α) (i j : Nat) (h : i < l.length), j < k → (l.flatMap f)[i * k + j]? = (f l[i])[j]?
  | [], i, j, h, _ => by simp at h
  | a :: l, 0, j, h, hj => by
    rw [List.flatMap_cons, List.getElem?_append_left (by rw [hf]; omega)]; simp
  | a :: l, i + 1, j, h, hj => by
    have e : (i + 1) * k + j = k + (i * k + j) := by rw [Nat.succ_mul]; omega
    rw [List.flatMap_cons, e, List.getElem?_append_right (by rw [hf]; omega), hf]
    rw [show k + (i * k + j) - k = i * k + j by omega, flat_get hf l i j (by simpa using h) hj]
    simp

structure Part where
  id : ByteArray
  size : Int
structure Pair where
  key : ByteArray
  val : ByteArray
structure Link where
  last : ByteArray
  id : ByteArray
  many : Int
def pc (p : Part) : List Value := [.string p.id, .int .i64 p.size]
def kc (p : Pair) : List Value := [.string p.key, .string p.val]
def lc (p : Link) : List Value := [.string p.last, .string p.id, .int .i64 p.many]
theorem pc_len (p : Part) : (pc p).length = 2 := rfl
theorem kc_len (p : Pair) : (kc p).length = 2 := rfl
theorem lc_len (p : Link) : (lc p).length = 3 := rfl

set_option maxRecDepth 100000 in
theorem size_calls (p : Part) (w : World) : Calls Tryd.prog 59 #[.agg #[.string p.id, .int .i64 p.size]] w fun e w' => e = .returned (.int .i64 p.size) ∧ Mod (fun _ => False) w w' := by
  go_enter Tryd.func59, Tryd.ntmps59
  go_wp2_with fail
  go_ret
  exact ⟨rfl, by (repeat (first | with_reducible exact Mod.refl _ _ | with_reducible apply Mod.drew | with_reducible apply Mod.drewN | with_reducible apply Mod.alloc | refine Mod.set1 ?_ (by first | exact rfl | simp) _ _))⟩
/-- a sum that grows no further than one more than what is allowed -/
def capStep (most n s : Int) : Int := min (n + min (max s 0) (most + 1)) (most + 1)
def capSum (most : Int) (l : List Int) : Int := l.foldl (capStep most) 0
theorem cap_walk (most z s : Int) : (if most + 1 < z + (if most + 1 < (if s < 0 then 0 else s) then most + 1 else if s < 0 then 0 else s) then most + 1 else z + (if most + 1 < (if s < 0 then 0 else s) then most + 1 else if s < 0 then 0 else s)) = capStep most z s := by
  unfold capStep
  (repeat' split) <;> omega
theorem capStep_in (most n s : Int) (hm : 0 ≤ most) (h0 : 0 ≤ n) (h1 : n ≤ most + 1) : 0 ≤ capStep most n s ∧ capStep most n s ≤ most + 1 := by unfold capStep; omega
theorem cap_in (most : Int) (hm : 0 ≤ most) : ∀ (l : List Int) (n : Int), 0 ≤ n → n ≤ most + 1 → 0 ≤ l.foldl (capStep most) n ∧ l.foldl (capStep most) n ≤ most + 1
  | [], n, h0, h1 => ⟨h0, h1⟩
  | s :: l, n, h0, h1 => by
    rw [List.foldl_cons]
    refine cap_in most hm l _ ?_ ?_ <;> unfold capStep <;> omega

set_option maxRecDepth 100000 in
set_option maxHeartbeats 1000000 in
theorem sumP_calls (b T : Nat) (v : Value) (bad : Bool) (rest : List Value) (A : Option Addr) (c : Nat) (l : List Part) (most : Int) (w : World) (h : Has w b (v :: .bool bad :: rest) T) (hA : Cells w A (l.flatMap pc)) (hc : l.length ≤ 100000000) (hm : 0 ≤ most ∧ most ≤ 1000000000) (hs : ∀ p ∈ l, In64 p.size) :
    Calls Tryd.prog 58 #[.pointer (some ⟨b, 0, none⟩), .slice A l.length c, .func (.func 59) #[] #[], .int .i64 most] w fun e w' =>
      e = .returned (.tuple #[]) ∧ Has w' b (v :: .bool (bad || !decide (capSum most (l.map (·.size)) ≤ most)) :: rest) T ∧ Mod (fun k => k = b) w w' := by
  have HH := Lib.hid h
  have HA := Lib.hid hA
  have HS := Lib.hid hs
  clear h hA hs
  go_enter Tryd.func58, Tryd.ntmps58
  go_wp2_with fail
  go_loopw [8, 13] (fun n i wr => ∃ (k : Nat) (z : Int), i = .int .i64 k ∧ n = .int .i64 z ∧ k ≤ l.length ∧ 0 ≤ z ∧ z ≤ most + 1 ∧ Hid (z = capSum most ((l.take k).map (·.size))) ∧ Hid (Mod (fun _ => False) w wr)) (fun _ i _ => l.length - (intOf i).toNat)
  case atStart => exact ⟨0, 0, by go_num, rfl, by omega, by omega, by omega, Lib.hid rfl, Lib.hid (Mod.refl _ _)⟩
  case round =>
    obtain ⟨k, z, rfl, rfl, hk, hz0, hz1, HZ, HM⟩ := hrel
    by_cases hlt : k < l.length
    · have i1 : (k : Int) < (l.length : Int) := by omega
      rcases HA.out.keep HM.out (fun _ _ h => h) with h | ⟨ba, o, rfl, hcell⟩
      · have := flat_len pc_len l; rw [h] at this; simp at this; omega
      have x0 := hcell _ _ (flat_get pc_len l k 0 hlt (by omega))
      have x1 := hcell _ _ (flat_get pc_len l k 1 hlt (by omega))
      rw [Nat.add_zero] at x0
      rw [← Nat.add_assoc] at x1
      have hbl : ba < wr.heap.size := World.block_lt_of_cell? wr _ x0
      have hin := HS.out l[k] (List.getElem_mem hlt)
      have htk : capSum most ((l.take (k + 1)).map (·.size)) = capStep most (capSum most ((l.take k).map (·.size))) l[k].size := by
        unfold capSum; rw [List.take_succ_eq_append_getElem hlt, List.map_append, List.foldl_append]; rfl
      generalize l[k] = p at *
      unfold In64 at hin
      have HT := Lib.hid htk
      have HP := Lib.hid (size_calls p)
      clear hcell htk
      go_wp2_with fail
      refine (HP.out _).mono ?_
      rintro e w1 ⟨rfl, hm1⟩
      have HM2 := Lib.hid (Mod.trans (HM.out.alloc _) hm1 (fun _ _ h => h))
      clear hm1
      go_wp2_with fail
      go_roundw
      case rel =>
        have hci := capStep_in most z p.size hm.1 hz0 hz1
        exact ⟨k + 1, capStep most z p.size, by go_num, by first | rw [cap_walk] | rfl, by omega, hci.1, hci.2, Lib.hid (by rw [HT.out, ← HZ.out]), HM2⟩
      case measure => simp [intOf]; omega
    · have hkl : k = l.length := by omega
      have i1 : ¬ (k : Int) < (l.length : Int) := by omega
      have hz := HZ.out
      rw [hkl, List.take_length] at hz
      have hA := fun ok => ask_calls b T v bad ok rest wr (HH.out.keep HM.out (fun h => h))
      have HK := Lib.hid hA
      have HZ2 := Lib.hid hz
      clear hz hA
      by_cases hle : z ≤ most
      · have q1 : decide (z ≤ most) = true := by simpa using hle
        go_wp2_with fail
        refine (HK.out _).mono ?_
        rintro e w2 ⟨rfl, hh2, hm2⟩
        have HH2 := Lib.hid hh2
        have HM2 := Lib.hid (Mod.trans (HM.out.mono fun _ _ h => h.elim) hm2 (fun _ _ h => h))
        clear hh2 hm2
        go_wp2_with fail
        go_end0
        exact ⟨rfl, by rw [← HZ2.out, q1]; simpa using HH2.out, HM2.out⟩
      · have q1 : decide (z ≤ most) = false := by simpa using hle
        go_wp2_with fail
        refine (HK.out _).mono ?_
        rintro e w2 ⟨rfl, hh2, hm2⟩
        have HH2 := Lib.hid hh2
        have HM2 := Lib.hid (Mod.trans (HM.out.mono fun _ _ h => h.elim) hm2 (fun _ _ h => h))
        clear hh2 hm2
        go_wp2_with fail
        go_end0
        exact ⟨rfl, by rw [← HZ2.out, q1]; simpa using HH2.out, HM2.out⟩

end Obj
end Go.Proofs.YthgcjfpaekpeeaaDoor
/- The walks of object's rising. -/
namespace Go.Proofs.YthgcjfpaekpeeaaDoor
set_option linter.unusedVariables false
set_option linter.unusedSimpArgs false
open Go.RowKit K Wire
namespace Obj

/-- Go's '<' of texts -/
def ltS (a b : ByteArray) : Bool := Go.Op.bytesLess a.toList b.toList
/-- do the first keys rise? -/
def risesN (L : List ByteArray) (n : Nat) : Bool := (List.range n).all fun i => ltS (L.getD i ByteArray.empty) (L.getD (i + 1) ByteArray.empty)
def rises (L : List ByteArray) : Bool := risesN L (L.length - 1)
theorem risesN_succ (L : List ByteArray) (n : Nat) : risesN L (n + 1) = (risesN L n && ltS (L.getD n ByteArray.empty) (L.getD (n + 1) ByteArray.empty)) := by
  unfold risesN; rw [List.range_succ, List.all_append]; simp only [List.all_cons, List.all_nil, Bool.and_true]

end Obj
end Go.Proofs.YthgcjfpaekpeeaaDoor
/- Plain laws of objects: what a writer puts, and when it is right. -/
namespace Go.Proofs.YthgcjfpaekpeeaaDoor
set_option linter.unusedVariables false
set_option linter.unusedSimpArgs false
open Go.RowKit K Wire
namespace Obj

structure W where
  l : List UInt8
  bad : Bool
def W.int (n lo hi : Int) (x : W) : W := ⟨x.l ++ enc n, x.bad || !inR n lo hi⟩
def W.text (s : ByteArray) (lo hi : Int) (x : W) : W := ⟨x.l ++ encT s.data.toList, x.bad || !inR (s.size : Int) lo hi⟩
def W.id (s : ByteArray) (x : W) : W := ⟨x.l ++ s.data.toList, x.bad || !decide (s.size = 32)⟩
def W.ask (ok : Bool) (x : W) : W := ⟨x.l, x.bad || !ok⟩

theorem cap_sum (most : Int) (hm : 0 ≤ most) : ∀ (l : List Int) (n : Int), (∀ s ∈ l, 0 ≤ s) → 0 ≤ n → n ≤ most + 1 → l.foldl (capStep most) n = min (n + l.sum) (most + 1)
  | [], n, _, h0, h1 => by simp; omega
  | s :: l, n, hs, h0, h1 => by
    rw [List.foldl_cons, List.sum_cons]
    have h2 := hs s (by simp)
    have hl : ∀ (l : List Int), (∀ s ∈ l, 0 ≤ s) → 0 ≤ l.sum := fun l => by
      induction l with
      | nil => intro _; simp
      | cons a l ih => intro h; rw [List.sum_cons]; have := ih (fun s hs => h s (by simp [hs])); have := h a (by simp); omega
    have h3 := hl l (fun s h => hs s (by simp [h]))
    have hci := capStep_in most n s hm h0 h1
    rw [cap_sum most hm l _ (fun s h => hs s (by simp [h])) hci.1 hci.2]
    unfold capStep
    omega
theorem capSum_le (most : Int) (hm : 0 ≤ most) (l : List Int) (hs : ∀ s ∈ l, 0 ≤ s) : decide (capSum most l ≤ most) = decide (l.sum ≤ most) := by
  unfold capSum
  rw [cap_sum most hm l 0 hs (by omega) (by omega)]
  congr 1
  rw [eq_iff_iff]
  omega

/-- what is put one behind the other -/
theorem fold_l {α : Type} (f : α → W → W) (enc1 : α → List UInt8) (hf : ∀ a x, (f a x).l = x.l ++ enc1 a) : ∀ (l : List α) (x : W), (l.foldl (fun x a => f a x) x).l = x.l ++ l.flatMap enc1
  | [], x => by simp
  | a :: l, x => by rw [List.foldl_cons, fold_l f enc1 hf l, hf, List.flatMap_cons, List.append_assoc]
theorem fold_bad {α : Type} (f : α → W → W) (ok : α → Bool) (hf : ∀ a x, (f a x).bad = (x.bad || !ok a)) : ∀ (l : List α) (x : W), (l.foldl (fun x a => f a x) x).bad = (x.bad || !l.all ok)
  | [], x => by simp
  | a :: l, x => by
    rw [List.foldl_cons, fold_bad f ok hf l, hf, List.all_cons]
    cases x.bad <;> cases ok a <;> simp
theorem take_fold {α : Type} (f : α → W → W) (l : List α) (x : W) (k : Nat) (h : k < l.length) : (l.take (k + 1)).foldl (fun x a => f a x) x = f l[k] ((l.take k).foldl (fun x a => f a x) x) := by
  rw [List.take_succ_eq_append_getElem h, List.foldl_append]; rfl

/-! fans -/
def partW (p : Part) (x : W) : W := W.int p.size 1 262144 (W.id p.id x)
def partB (p : Part) : List UInt8 := p.id.data.toList ++ enc p.size
def partOk (p : Part) : Bool := decide (p.id.size = 32) && inR p.size 1 262144
def fanW0 (level : Int) (kids : List Part) : W := W.int (kids.length : Int) 1 32 (W.int level 1 20 ⟨[0x46], false⟩)
def fanW (level : Int) (kids : List Part) : W := W.ask (decide (capSum 262144 (kids.map (·.size)) ≤ 262144)) (kids.foldl (fun x a => partW a x) (fanW0 level kids))
def fanB (level : Int) (kids : List Part) : List UInt8 := 0x46 :: (enc level ++ (enc (kids.length : Int) ++ kids.flatMap partB))
def rightFan (level : Int) (kids : List Part) : Bool := inR level 1 20 && inR (kids.length : Int) 1 32 && kids.all partOk && decide ((kids.map (·.size)).sum ≤ 262144)
theorem partW_l (p : Part) (x : W) : (partW p x).l = x.l ++ partB p := by simp [partW, W.int, W.id, partB]
theorem partW_bad (p : Part) (x : W) : (partW p x).bad = (x.bad || !partOk p) := by
  simp only [partW, W.int, W.id, partOk]; cases x.bad <;> cases decide (p.id.size = 32) <;> simp
theorem fanW_l (level : Int) (kids : List Part) : (fanW level kids).l = fanB level kids := by
  unfold fanW W.ask; dsimp only
  rw [fold_l partW partB partW_l]; simp [fanW0, W.int, fanB]
theorem fanW_bad (level : Int) (kids : List Part) : (fanW level kids).bad = !rightFan level kids := by
  unfold fanW W.ask; dsimp only
  rw [fold_bad partW partOk partW_bad]
  have h0 : (fanW0 level kids).bad = (!inR level 1 20 || !inR (kids.length : Int) 1 32) := by simp [fanW0, W.int]
  rw [h0]
  unfold rightFan
  cases hall : kids.all partOk with
  | false => cases inR level 1 20 <;> cases inR (kids.length : Int) 1 32 <;> simp
  | true =>
    have hs : ∀ s ∈ kids.map (·.size), 0 ≤ s := by
      intro s hs
      obtain ⟨p, hp, rfl⟩ := List.mem_map.1 hs
      have := List.all_eq_true.1 hall p hp
      simp only [partOk, inR, Bool.and_eq_true, decide_eq_true_eq] at this
      omega
    rw [capSum_le 262144 (by omega) _ hs]
    cases inR level 1 20 <;> cases inR (kids.length : Int) 1 32 <;> simp

/-! leaves -/
def pairW (p : Pair) (x : W) : W := W.text p.val 0 128 (W.text p.key 1 64 x)
def pairB (p : Pair) : List UInt8 := encT p.key.data.toList ++ encT p.val.data.toList
def pairOk (p : Pair) : Bool := inR (p.key.size : Int) 1 64 && inR (p.val.size : Int) 0 128
def leafW0 (pairs : List Pair) : W := W.int (pairs.length : Int) 0 64 ⟨[0x4c], false⟩
def leafW (pairs : List Pair) : W := W.ask (rises (pairs.map (·.key))) (pairs.foldl (fun x a => pairW a x) (leafW0 pairs))
def leafB (pairs : List Pair) : List UInt8 := 0x4c :: (enc (pairs.length : Int) ++ pairs.flatMap pairB)
def rightLeaf (pairs : List Pair) : Bool := inR (pairs.length : Int) 0 64 && pairs.all pairOk && rises (pairs.map (·.key))
theorem pairW_l (p : Pair) (x : W) : (pairW p x).l = x.l ++ pairB p := by simp [pairW, W.text, pairB]
theorem pairW_bad (p : Pair) (x : W) : (pairW p x).bad = (x.bad || !pairOk p) := by
  simp only [pairW, W.text, pairOk]; cases x.bad <;> cases inR (p.key.size : Int) 1 64 <;> simp
theorem leafW_l (pairs : List Pair) : (leafW pairs).l = leafB pairs := by
  unfold leafW W.ask; dsimp only
  rw [fold_l pairW pairB pairW_l]; simp [leafW0, W.int, leafB]
theorem leafW_bad (pairs : List Pair) : (leafW pairs).bad = !rightLeaf pairs := by
  unfold leafW W.ask; dsimp only
  rw [fold_bad pairW pairOk pairW_bad]
  have h0 : (leafW0 pairs).bad = !inR (pairs.length : Int) 0 64 := by simp [leafW0, W.int]
  rw [h0]
  unfold rightLeaf
  cases pairs.all pairOk <;> cases inR (pairs.length : Int) 0 64 <;> simp

/-! branches -/
def linkW (p : Link) (x : W) : W := W.int p.many 1 4096 (W.id p.id (W.text p.last 1 64 x))
def linkB (p : Link) : List UInt8 := encT p.last.data.toList ++ (p.id.data.toList ++ enc p.many)
def linkOk (p : Link) : Bool := inR (p.last.size : Int) 1 64 && decide (p.id.size = 32) && inR p.many 1 4096
def branchW0 (level : Int) (kids : List Link) : W := W.int (kids.length : Int) 1 64 (W.int level 1 20 ⟨[0x42], false⟩)
def branchW (level : Int) (kids : List Link) : W := W.ask (decide (capSum 4096 (kids.map (·.many)) ≤ 4096)) (W.ask (rises (kids.map (·.last))) (kids.foldl (fun x a => linkW a x) (branchW0 level kids)))
def branchB (level : Int) (kids : List Link) : List UInt8 := 0x42 :: (enc level ++ (enc (kids.length : Int) ++ kids.flatMap linkB))
def rightBranch (level : Int) (kids : List Link) : Bool := inR level 1 20 && inR (kids.length : Int) 1 64 && kids.all linkOk && rises (kids.map (·.last)) && decide ((kids.map (·.many)).sum ≤ 4096)
theorem linkW_l (p : Link) (x : W) : (linkW p x).l = x.l ++ linkB p := by simp [linkW, W.int, W.id, W.text, linkB]
theorem linkW_bad (p : Link) (x : W) : (linkW p x).bad = (x.bad || !linkOk p) := by
  simp only [linkW, W.int, W.id, W.text, linkOk]; cases x.bad <;> cases decide (p.id.size = 32) <;> cases inR (p.last.size : Int) 1 64 <;> simp
theorem branchW_l (level : Int) (kids : List Link) : (branchW level kids).l = branchB level kids := by
  unfold branchW W.ask; dsimp only
  rw [fold_l linkW linkB linkW_l]; simp [branchW0, W.int, branchB]
theorem branchW_bad (level : Int) (kids : List Link) : (branchW level kids).bad = !rightBranch level kids := by
  unfold branchW W.ask; dsimp only
  rw [fold_bad linkW linkOk linkW_bad]
  have h0 : (branchW0 level kids).bad = (!inR level 1 20 || !inR (kids.length : Int) 1 64) := by simp [branchW0, W.int]
  rw [h0]
  unfold rightBranch
  cases hall : kids.all linkOk with
  | false => cases inR level 1 20 <;> cases inR (kids.length : Int) 1 64 <;> simp
  | true =>
    have hs : ∀ s ∈ kids.map (·.many), 0 ≤ s := by
      intro s hs
      obtain ⟨p, hp, rfl⟩ := List.mem_map.1 hs
      have := List.all_eq_true.1 hall p hp
      simp only [linkOk, inR, Bool.and_eq_true, decide_eq_true_eq] at this
      omega
    rw [capSum_le 4096 (by omega) _ hs]
    cases inR level 1 20 <;> cases inR (kids.length : Int) 1 64 <;> cases rises (kids.map (·.last)) <;> simp
end Obj
end Go.Proofs.YthgcjfpaekpeeaaDoor
