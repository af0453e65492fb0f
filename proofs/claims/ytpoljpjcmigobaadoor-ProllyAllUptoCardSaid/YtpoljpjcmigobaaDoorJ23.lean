/- Joined texts: ProF, ProA. -/
import Derived.Test.YtpoljpjcmigobaaDoorJ18
import Derived.Test.YtpoljpjcmigobaaDoorJ20
import Derived.Test.YtpoljpjcmigobaaDoorJ21
import Derived.Shelf.Spec.SearchS
import Derived.Sort.Walk0
import Derived.Test.YtpoljpjcmigobaaDoorJ22
/- Plain words for prolly: what stands at an id; texts' order. -/
namespace Go.Proofs.YtpoljpjcmigobaaDoor
set_option linter.unusedVariables false
set_option linter.unusedSimpArgs false
open Go.RowKit K Wire
namespace Prolly
open Go.Proofs.YtpoljpjcmigobaaDoor.Obj Go.Proofs.YtpoljpjcmigobaaDoor.Blob

/-! Go's order of texts -/
theorem ltS_iff (a b : ByteArray) : ltS a b = true ↔ a.toList < b.toList := by
  unfold ltS; rw [bytesLess_eq]; exact decide_eq_true_iff
theorem ltS_irrefl (a : ByteArray) : ltS a a = false := by
  rw [Bool.eq_false_iff]; intro h; exact List.lt_irrefl _ ((ltS_iff a a).1 h)
theorem ltS_trans {a b c : ByteArray} (h : ltS a b = true) (k : ltS b c = true) : ltS a c = true :=
  (ltS_iff _ _).2 (List.lt_trans ((ltS_iff _ _).1 h) ((ltS_iff _ _).1 k))
theorem ltS_tri (a b : ByteArray) (h : ltS a b = false) (k : ltS b a = false) : a = b := by
  have h1 : ¬ a.toList < b.toList := fun e => by rw [(ltS_iff a b).2 e] at h; cases h
  have h2 : ¬ b.toList < a.toList := fun e => by rw [(ltS_iff b a).2 e] at k; cases k
  have h3 : a.toList = b.toList := List.le_antisymm (List.not_lt.1 h2) (List.not_lt.1 h1)
  exact (Lib.bytes_beq_iff a b).1 (beq_iff_eq.2 h3)
theorem ltS_asymm {a b : ByteArray} (h : ltS a b = true) : ltS b a = false := by
  rw [Bool.eq_false_iff]; intro k
  have := ltS_trans h k
  rw [ltS_irrefl] at this; cases this
theorem ltS_empty (a : ByteArray) (h : 0 < a.size) : ltS ⟨#[]⟩ a = true := by
  unfold ltS
  have h2 : a.toList.isEmpty = false := str_full a h
  cases h3 : a.toList with
  | nil => rw [h3] at h2; cases h2
  | cons x l =>
    have e : (⟨#[]⟩ : ByteArray).toList = [] := by rw [Lib.toList_data]
    rw [e]; rfl
/-- a list that rises, from one place to a later one -/
theorem risesN_at (L : List ByteArray) : ∀ (n : Nat), risesN L n = true → ∀ i, i < n → ltS (L.getD i ByteArray.empty) (L.getD (i + 1) ByteArray.empty) = true := fun n h i hi => by
  unfold risesN at h
  exact List.all_eq_true.1 h i (List.mem_range.2 hi)
theorem rises_lt (L : List ByteArray) (h : rises L = true) : ∀ (d i : Nat), i + d + 1 < L.length → ltS (L.getD i ByteArray.empty) (L.getD (i + d + 1) ByteArray.empty) = true
  | 0, i, hi => risesN_at L _ h i (by omega)
  | d + 1, i, hi => ltS_trans (rises_lt L h d i (by omega)) (risesN_at L _ h (i + d + 1) (by omega))
theorem rises_lt2 {L : List ByteArray} (h : rises L = true) {i j : Nat} (hij : i < j) (hj : j < L.length) : ltS (L.getD i ByteArray.empty) (L.getD j ByteArray.empty) = true := by
  have := rises_lt L h (j - i - 1) i (by omega)
  rwa [show i + (j - i - 1) + 1 = j by omega] at this

/-! nodes -/
inductive PNode
  | bad (e : Int)
  | leaf (ps : List Pair)
  | branch (L : Int) (kids : List Link)
def lastK (ps : List Pair) : ByteArray := (ps.map (·.key)).getD (ps.length - 1) ByteArray.empty
def lastL (ks : List Link) : ByteArray := (ks.map (·.last)).getD (ks.length - 1) ByteArray.empty
def manyL (ks : List Link) : Int := (ks.map (·.many)).sum
/-- what bytes say, for a link of a level -/
def pnodeB (b : ByteArray) (k : Link) (level : Int) : PNode :=
  if okLeaf b.data.toList = true then
    (if level < 0 ∨ (level = 0 ∧ 0 < (outLeaf b.data.toList).length ∧ ((outLeaf b.data.toList).length : Int) = k.many ∧ lastK (outLeaf b.data.toList) = k.last) then .leaf (outLeaf b.data.toList) else .bad 122)
  else if okBranch b.data.toList = true ∧ (level < 0 ∨ ((outBranch b.data.toList).1 = level ∧ manyL (outBranch b.data.toList).2 = k.many ∧ lastL (outBranch b.data.toList).2 = k.last)) then .branch (outBranch b.data.toList).1 (outBranch b.data.toList).2
  else .bad 122
def pnodeOf (objs : List Ob) (k : Link) (level : Int) : PNode :=
  match findL objs k.id with
  | none => .bad 3
  | some b => pnodeB b k level
theorem outLeaf_facts (L : List UInt8) : (outLeaf L).length ≤ 64 ∧ rises ((outLeaf L).map (·.key)) = true ∧ ∀ p ∈ outLeaf L, 1 ≤ p.key.size ∧ p.key.size ≤ 64 ∧ p.val.size ≤ 128 := by
  unfold outLeaf
  split
  · rename_i h
    have hr := (leaf_sound L h).2
    simp only [rightLeaf, inR, Bool.and_eq_true, decide_eq_true_eq] at hr
    obtain ⟨⟨a1, a2⟩, a3⟩ := hr
    refine ⟨by omega, a3, fun k hk => ?_⟩
    have := List.all_eq_true.1 a2 k hk
    simp only [pairOk, inR, Bool.and_eq_true, decide_eq_true_eq] at this
    omega
  · exact ⟨by simp, rfl, fun k hk => by cases hk⟩
theorem outBranch_facts (L : List UInt8) : (outBranch L).2.length ≤ 64 ∧ rises ((outBranch L).2.map (·.last)) = true ∧ manyL (outBranch L).2 ≤ 4096 ∧ (∀ k ∈ (outBranch L).2, 1 ≤ k.many ∧ k.many ≤ 4096 ∧ k.id.size = 32 ∧ 1 ≤ k.last.size ∧ k.last.size ≤ 64) ∧
    (okBranch L = true → 1 ≤ (outBranch L).1 ∧ (outBranch L).1 ≤ 20 ∧ 1 ≤ (outBranch L).2.length) ∧ (okBranch L = false → outBranch L = (0, [])) := by
  unfold outBranch
  split
  · rename_i h
    have hr := (branch_sound L h).2
    simp only [rightBranch, inR, Bool.and_eq_true, decide_eq_true_eq] at hr
    obtain ⟨⟨⟨⟨a1, a2⟩, a3⟩, a4⟩, a5⟩ := hr
    refine ⟨by simp only; omega, a4, a5, fun k hk => ?_, fun _ => ⟨a1.1, a1.2, by simp only; omega⟩, fun h2 => by rw [h] at h2; cases h2⟩
    have := List.all_eq_true.1 a3 k hk
    simp only [linkOk, inR, Bool.and_eq_true, decide_eq_true_eq] at this
    omega
  · rename_i h
    exact ⟨by simp, rfl, by simp [manyL], (fun k hk => by cases hk), fun h2 => absurd h2 h, fun _ => rfl⟩
theorem leaf_facts {b : ByteArray} {k : Link} {level : Int} {ps : List Pair} (h : pnodeB b k level = .leaf ps) :
    okLeaf b.data.toList = true ∧ outLeaf b.data.toList = ps ∧ (level < 0 ∨ (level = 0 ∧ 0 < ps.length ∧ (ps.length : Int) = k.many ∧ lastK ps = k.last)) ∧ ps.length ≤ 64 ∧ rises (ps.map (·.key)) = true ∧ (∀ p ∈ ps, 1 ≤ p.key.size ∧ p.key.size ≤ 64 ∧ p.val.size ≤ 128) := by
  unfold pnodeB at h
  split at h
  · rename_i h0
    split at h
    · rename_i h1
      obtain rfl : outLeaf b.data.toList = ps := by simpa using h
      have hf := outLeaf_facts b.data.toList
      exact ⟨h0, rfl, h1, hf.1, hf.2.1, hf.2.2⟩
    · cases h
  · split at h <;> cases h
theorem branch_facts {b : ByteArray} {k : Link} {level L : Int} {kids : List Link} (h : pnodeB b k level = .branch L kids) :
    okLeaf b.data.toList = false ∧ okBranch b.data.toList = true ∧ outBranch b.data.toList = (L, kids) ∧ (level < 0 ∨ (L = level ∧ manyL kids = k.many ∧ lastL kids = k.last)) ∧ 1 ≤ L ∧ L ≤ 20 ∧ 1 ≤ kids.length ∧ kids.length ≤ 64 ∧ rises (kids.map (·.last)) = true ∧ manyL kids ≤ 4096 ∧
      (∀ k ∈ kids, 1 ≤ k.many ∧ k.many ≤ 4096 ∧ k.id.size = 32 ∧ 1 ≤ k.last.size ∧ k.last.size ≤ 64) := by
  unfold pnodeB at h
  split at h
  · split at h <;> cases h
  · rename_i h0
    split at h
    · rename_i h1
      obtain ⟨e1, e2⟩ : (outBranch b.data.toList).1 = L ∧ (outBranch b.data.toList).2 = kids := by simpa using h
      obtain ⟨f1, f2, f3, f4, f5, _⟩ := outBranch_facts b.data.toList
      have f5 := f5 h1.1
      have h2 := h1.2
      rw [e1, e2] at h2 f5
      rw [e2] at f1 f2 f3 f4
      refine ⟨by simpa using h0, h1.1, by rw [← e1, ← e2], h2, f5.1, f5.2.1, f5.2.2, f1, f2, f3, f4⟩
    · cases h
theorem pnode_leaf {objs : List Ob} {k : Link} {level : Int} {ps : List Pair} (h : pnodeOf objs k level = .leaf ps) : ∃ b, findL objs k.id = some b ∧ pnodeB b k level = .leaf ps := by
  unfold pnodeOf at h
  cases hf : findL objs k.id with
  | none => rw [hf] at h; cases h
  | some b => rw [hf] at h; exact ⟨b, rfl, h⟩
theorem pnode_branch {objs : List Ob} {k : Link} {level L : Int} {kids : List Link} (h : pnodeOf objs k level = .branch L kids) : ∃ b, findL objs k.id = some b ∧ pnodeB b k level = .branch L kids := by
  unfold pnodeOf at h
  cases hf : findL objs k.id with
  | none => rw [hf] at h; cases h
  | some b => rw [hf] at h; exact ⟨b, rfl, h⟩
theorem pnode_bad {objs : List Ob} {k : Link} {level e : Int} (h : pnodeOf objs k level = .bad e) : e = 3 ∨ e = 122 := by
  unfold pnodeOf at h
  cases hf : findL objs k.id with
  | none => rw [hf] at h; left; injection h with h; omega
  | some b =>
    rw [hf] at h
    dsimp only at h
    unfold pnodeB at h
    right
    split at h <;> split at h <;> first | (cases h; done) | (injection h with h; omega)

/-! a key's value -/
/-- how many kids are below a key -/
def below (key : ByteArray) (l : List ByteArray) : Nat := (l.takeWhile (fun s => ltS s key)).length
def valOf (ps : List Pair) (key : ByteArray) : Option ByteArray := (ps.find? (fun p => decide (p.key = key))).map (·.val)
structure FR where
  val : ByteArray
  is : Bool
  asked : List ByteArray
  e : Int
/-- from a node on -/
def fin (objs : List Ob) (key : ByteArray) : Nat → PNode → List ByteArray → FR
  | 0, _, a => ⟨⟨#[]⟩, false, a, 0⟩
  | f + 1, n, a => match n with
    | .bad e => ⟨⟨#[]⟩, false, a, e⟩
    | .leaf ps => match valOf ps key with
      | some v => ⟨v, true, a, 0⟩
      | none => ⟨⟨#[]⟩, false, a, 0⟩
    | .branch L kids =>
      if h : below key (kids.map (·.last)) < kids.length then fin objs key f (pnodeOf objs kids[below key (kids.map (·.last))] (L - 1)) (a ++ [(kids[below key (kids.map (·.last))]).id])
      else ⟨⟨#[]⟩, false, a, 0⟩
def PNode.lv : PNode → Int
  | .branch L _ => L
  | _ => 0
theorem pnode_lv (objs : List Ob) (k : Link) (level : Int) : (pnodeOf objs k level).lv ≤ 20 ∧ 0 ≤ (pnodeOf objs k level).lv ∧ (0 ≤ level → (pnodeOf objs k level).lv ≤ level) := by
  cases h : pnodeOf objs k level with
  | bad e => simp only [PNode.lv]; omega
  | leaf ps => simp only [PNode.lv]; omega
  | branch L kids =>
    obtain ⟨b, _, hb⟩ := pnode_branch h
    obtain ⟨_, _, _, h1, h2, h3, _⟩ := branch_facts hb
    simp only [PNode.lv]
    omega
def link0 (id : ByteArray) : Link := ⟨⟨#[]⟩, id, 0⟩
def findR (objs : List Ob) (root key : ByteArray) : FR :=
  if 1 ≤ key.size ∧ key.size ≤ 64 then fin objs key 30 (pnodeOf objs (link0 root) (-1)) [root] else ⟨⟨#[]⟩, false, [], 2⟩
theorem below_le (key : ByteArray) (l : List ByteArray) : below key l ≤ l.length := (List.takeWhile_sublist _).length_le
theorem below_lt (key : ByteArray) : ∀ (l : List ByteArray) (i : Nat), i < below key l → ltS (l.getD i ByteArray.empty) key = true
  | [], i, h => by simp [below] at h
  | a :: l, i, h => by
    unfold below at h
    rw [List.takeWhile_cons] at h
    split at h
    · rename_i ha
      cases i with
      | zero => simpa using ha
      | succ i => simpa using below_lt key l i (by simpa [below] using h)
    · simp at h
theorem below_at (key : ByteArray) : ∀ (l : List ByteArray), below key l < l.length → ltS (l.getD (below key l) ByteArray.empty) key = false
  | [], h => by simp at h
  | a :: l, h => by
    unfold below at h ⊢
    rw [List.takeWhile_cons] at h ⊢
    split at h
    · rename_i ha
      rw [if_pos ha]
      simpa [below] using below_at key l (by simpa [below] using h)
    · rename_i ha
      rw [if_neg ha]
      simpa using ha
theorem below_ge {key : ByteArray} {l : List ByteArray} (hr : rises l = true) {i : Nat} (h : below key l ≤ i) (hi : i < l.length) : ltS (l.getD i ByteArray.empty) key = false := by
  have h1 := below_at key l (by omega)
  by_cases he : below key l = i
  · rwa [he] at h1
  · have h2 := rises_lt2 hr (show below key l < i by omega) hi
    rw [Bool.eq_false_iff]
    intro h3
    rw [ltS_trans h2 h3] at h1
    cases h1
/-- the halving finds how many are below -/
theorem bs_below {key : ByteArray} {l : List ByteArray} (hr : rises l = true) (less : Nat → Bool) (hl : ∀ t, t < l.length → less t = ltS (l.getD t ByteArray.empty) key) (h0 : ∀ t, l.length ≤ t → less t = false) :
    Lib.bsGo less l.length 0 l.length = below key l := by
  refine Lib.bsGo_spec less _ (fun t ht => ?_) (fun t ht => ?_) _ _ _ (by omega) (by omega) (below_le key l)
  · rw [hl t (by have := below_le key l; omega)]; exact below_lt key l t ht
  · by_cases h : t < l.length
    · rw [hl t h]; exact below_ge hr ht h
    · exact h0 t (by omega)
theorem valOf_hit {ps : List Pair} {key : ByteArray} (hr : rises (ps.map (·.key)) = true) {i : Nat} (hi : i < ps.length) (h : ps[i].key = key) : valOf ps key = some ps[i].val ∧ below key (ps.map (·.key)) = i := by
  have hb : below key (ps.map (·.key)) = i := by
    have hil : i < (ps.map (·.key)).length := by simpa using hi
    have e : (ps.map (·.key)).getD i ByteArray.empty = key := by simp [List.getD, hi, h]
    rcases Nat.lt_trichotomy (below key (ps.map (·.key))) i with h1 | h1 | h1
    · have h2 := below_at key _ (show below key (ps.map (·.key)) < (ps.map (·.key)).length by omega)
      have h3 := rises_lt2 hr h1 hil
      rw [e] at h3
      rw [h3] at h2; cases h2
    · exact h1
    · have h2 := below_lt key _ i h1
      rw [e, ltS_irrefl] at h2; cases h2
  refine ⟨?_, hb⟩
  unfold valOf
  have : ps.find? (fun p => decide (p.key = key)) = some ps[i] := by
    rw [List.find?_eq_some_iff_getElem]
    refine ⟨by simpa using h, i, hi, rfl, fun j hj => ?_⟩
    simp only [Bool.not_eq_true', decide_eq_false_iff_not]
    intro h4
    have h5 := rises_lt2 hr hj (by simpa using hi)
    have e1 : (ps.map (·.key)).getD i ByteArray.empty = key := by simp [List.getD, hi, h]
    have e2 : (ps.map (·.key)).getD j ByteArray.empty = key := by simp [List.getD, show j < ps.length by omega, h4]
    rw [e1, e2, ltS_irrefl] at h5
    cases h5
  rw [this]; rfl
theorem valOf_miss {ps : List Pair} {key : ByteArray} (h : ∀ (i : Nat) (hi : i < ps.length), ps[i].key ≠ key) : valOf ps key = none := by
  unfold valOf
  have : ps.find? (fun p => decide (p.key = key)) = none := by
    rw [List.find?_eq_none]
    intro x hx
    obtain ⟨i, hi, rfl⟩ := List.mem_iff_getElem.1 hx
    simpa using h i hi
  rw [this]; rfl
theorem valOf_bs {ps : List Pair} {key : ByteArray} (hr : rises (ps.map (·.key)) = true) (h : ∀ hi : below key (ps.map (·.key)) < ps.length, ps[below key (ps.map (·.key))].key ≠ key) : valOf ps key = none :=
  valOf_miss fun i hi he => by
    have := (valOf_hit hr hi he).2
    subst this
    exact h hi he
end Prolly
end Go.Proofs.YtpoljpjcmigobaaDoor
/- Who answers with objects: what it may turn, what it needs. -/
namespace Go.Proofs.YtpoljpjcmigobaaDoor
set_option linter.unusedVariables false
set_option linter.unusedSimpArgs false
open Go.RowKit K Wire
namespace Prolly
open Go.Proofs.YtpoljpjcmigobaaDoor.Obj Go.Proofs.YtpoljpjcmigobaaDoor.Blob

/-- who answers: I asked F w; F: the blocks that it may turn; N: the others that it needs -/
structure Gf where
  ks : Nat
  caps : Array Value
  N : Nat → Prop
  I : List ByteArray → (Nat → Prop) → World → Prop
def Gf.f (G : Gf) : Value := .func (.func G.ks) #[] G.caps
structure GfOk (G : Gf) (objs : List Ob) : Prop where
  keep : ∀ a F w w' S, G.I a F w → Mod S w w' → (∀ k, F k ∨ G.N k → ¬ S k) → G.I a F w'
  lt : ∀ a F w k, G.I a F w → F k ∨ G.N k → k < w.heap.size
  enter : ∀ (w : World) s, (callFunc G.ks (#[.string s] ++ G.caps)).run Tryd.prog w = .ok (.enter G.ks (#[.string s] ++ G.caps)) w
  call : ∀ a F w s, G.I a F w → a.length ≤ 1000000000 → Calls Tryd.prog G.ks (#[.string s] ++ G.caps) w fun e w' => e = .returned (.tuple #[.string (gotB (findL objs s)), .int .i64 (gotE (findL objs s))]) ∧ ∃ F', G.I (a ++ [s]) F' w' ∧ Mod F w w' ∧ ∀ k, F' k → F k ∨ w.heap.size ≤ k

set_option maxRecDepth 100000 in
set_option maxHeartbeats 2000000 in
theorem asked2_calls {B b0 b1 b2 : Nat} {A : Option Addr} {c : Nat} {objs : List Ob} {v : Value} {a : List ByteArray} {w : World} (s : ByteArray) (h : AskIs B b0 b1 b2 A c objs v a w) (ha : a.length ≤ 1000000000) :
    Calls Tryd.prog 42 #[.string s, .pointer (some ⟨b1, 0, none⟩), .pointer (some ⟨b2, 0, none⟩)] w fun e w' =>
      e = .returned (.tuple #[.string (gotB (findL objs s)), .int .i64 (gotE (findL objs s))]) ∧ (∃ v', AskIs B b0 b1 b2 A c objs v' (a ++ [s]) w' ∧ ∀ k, v'.ownBlock = some k → v.ownBlock = some k ∨ w.heap.size ≤ k) ∧ Mod (fun k => k = b0 ∨ v.ownBlock = some k) w w' := by
  have HI := Lib.hid h
  have h10 := has_ne2 h.box1 h.at0 (by decide)
  have h20 := has_ne2 h.box2 h.at0 (by decide)
  have x1 := h.box1.cell (o := 0) rfl
  have x0 := h.at0.cell (o := 0) rfl
  have x2 := h.box2.cell (o := 0) rfl
  have f0 := h.at0.frozen 0
  have l0 := h.at0.lt
  have l1 := h.box1.lt
  have hq0 : ∀ k, v.ownBlock = some k → Q B w k := fun k hk => by
    obtain ⟨cur, fr, hh⟩ := own_row h.own hk
    exact ⟨(h.own.lt k hk).1, cur, fr, _, hh, .inl rfl⟩
  have hne : ∀ (b : Nat) (cs : List Value) (T : TypeId), Has w b cs T → T ≠ 9 → v.ownBlock ≠ some b := fun b cs T hb hT hv => by
    obtain ⟨cur, fr, hh⟩ := own_row h.own hv
    unfold Has at hb
    rw [hb] at hh
    injection hh with hh
    injection hh with _ hh
    exact hT hh
  have n0 := hne _ _ _ h.at0 (by decide)
  have n1 := hne _ _ _ h.box1 (by decide)
  have n2 := hne _ _ _ h.box2 (by decide)
  have HN := Lib.hid (And.intro n0 (And.intro n1 n2))
  have HQ := Lib.hid hq0
  have fv0 := fun (w' : World) (m : Mod (fun k => v.ownBlock = some k ∨ w.heap.size ≤ k) w.drew w') => (m.cell (p := ⟨b0, 0, none⟩) l0 (by rintro (h | h) <;> first | exact n0 h | exact absurd h (Nat.not_le.2 l0))).trans x0
  have fv1 := fun (w' : World) (m : Mod (fun k => v.ownBlock = some k ∨ w.heap.size ≤ k) w.drew w') => (m.cell (p := ⟨b1, 0, none⟩) l1 (by rintro (h | h) <;> first | exact n1 h | exact absurd h (Nat.not_le.2 l1))).trans x1
  clear h hq0 hne n0 n1 n2
  go_enter Tryd.func42, Tryd.ntmps42
  go_wp2_with fail
  refine region_mS (fun k => v.ownBlock = some k ∨ w.heap.size ≤ k) (by kernel_rfl) ?_
  simp only [List.length_cons, List.length_nil, List.replicate]
  refine take0S (v := ?v1) (oi := ?o1) 0 ?hi1 (by kernel_rfl) (by kernel_rfl) (by kernel_rfl) ?hq1 ?hy1 ?_
  case hi1 => (simp only [List.getElem?_toArray, List.getElem?_cons_zero, List.getElem?_cons_succ]; rfl)
  case hq1 => exact fun _ _ _ h => h
  case hy1 => first | (refine ry_notS ?_; rfl) | (refine ry_runS (by rfl) (fun w' hw' => ?_); go_simp; try rfl)
  simp only [Act.put, List.setIfInBounds_toArray, List.set_cons_zero, List.set_cons_succ]
  refine take0S (v := ?v2) (oi := ?o2) 1 ?hi2 (by kernel_rfl) (by kernel_rfl) (by kernel_rfl) ?hq2 ?hy2 ?_
  case hi2 => (simp only [List.getElem?_toArray, List.getElem?_cons_zero, List.getElem?_cons_succ]; rfl)
  case hq2 => exact fun _ _ _ h => h
  case hy2 => first | (refine ry_notS ?_; rfl) | (refine ry_runS (by rfl) (fun w' hw' => ?_); go_simp; try rfl)
  simp only [Act.put, List.setIfInBounds_toArray, List.set_cons_zero, List.set_cons_succ]
  refine take0S (v := ?v3) (oi := ?o3) 2 ?hi3 (by kernel_rfl) (by kernel_rfl) (by kernel_rfl) ?hq3 ?hy3 ?_
  case hi3 => (simp only [List.getElem?_toArray, List.getElem?_cons_zero, List.getElem?_cons_succ]; rfl)
  case hq3 => exact fun _ _ _ h => h
  case hy3 => first | (refine ry_notS ?_; rfl) | (refine ry_runS (by rfl) (fun w' hw' => ?_); go_simp; try rfl)
  simp only [Act.put, List.setIfInBounds_toArray, List.set_cons_zero, List.set_cons_succ]
  refine take0S (v := ?v4) (oi := ?o4) 3 ?hi4 (by kernel_rfl) (by kernel_rfl) (by kernel_rfl) ?hq4 ?hy4 ?_
  case hi4 => (simp only [List.getElem?_toArray, List.getElem?_cons_zero, List.getElem?_cons_succ]; rfl)
  case hq4 => exact fun _ _ _ h => h
  case hy4 => first | (refine ry_notS ?_; rfl) | (refine ry_runS (by rfl) (fun w' hw' => ?_); go_simp; try rfl)
  simp only [Act.put, List.setIfInBounds_toArray, List.set_cons_zero, List.set_cons_succ]
  refine take0S (v := ?v5) (oi := ?o5) 4 ?hi5 (by kernel_rfl) (by kernel_rfl) (by kernel_rfl) ?hq5 ?hy5 ?_
  case hi5 => (simp only [List.getElem?_toArray, List.getElem?_cons_zero, List.getElem?_cons_succ]; rfl)
  case hq5 => exact fun _ _ _ h => h
  case hy5 => first | (refine ry_notS ?_; rfl) | (refine ry_runS (by rfl) (fun w' hw' => ?_); go_simp; try rfl)
  simp only [Act.put, List.setIfInBounds_toArray, List.set_cons_zero, List.set_cons_succ]
  refine step0S (o := ?o6) 5 (by kernel_rfl) ?hi6 ?hw6 ?_
  case hi6 => (simp only [List.getElem?_toArray, List.getElem?_cons_zero, List.getElem?_cons_succ]; rfl)
  case hw6 => rfl
  go_simp
  refine ⟨.inl (Mod.alloc (Mod.refl _ _) _), ?_⟩
  refine step0S (o := ?o7) 6 (by kernel_rfl) ?hi7 ?hw7 ?_
  case hi7 => (simp only [List.getElem?_toArray, List.getElem?_cons_zero, List.getElem?_cons_succ]; rfl)
  case hw7 => rfl
  refine appG_step (.tmp 9) (.tmp 11) strs_t B v a.length (a.map .string) ((own_keep HI.out.own (Mod.drew (Mod.refl (fun _ => False) w)) (fun _ _ _ h => h)).alloc _) (some ⟨w.heap.size, 0, none⟩) 1 1 [.string s] rfl rfl rfl rfl (cells_lit (w := w.drew) rfl) (by intro u hu; simp at hu; rcases hu with rfl; rfl) (by omega) (by unfold maxLen; omega) (by have := HI.out.le; simp; omega) ?_
  intro v5 w5 ho5 hm5 hr5
  refine ⟨.inl (hm5.mono fun _ _ h => .inl h), ?_⟩
  obtain ⟨A5, c5, rfl, _, _, _, _⟩ := own_cells ho5
  have hM5 := Mod.trans ((Mod.refl (fun k => v.ownBlock = some k) w).drew.alloc (.cells #[.string s] 9)) hm5 (fun _ _ h => h)
  have hR5 : RowOf w v (.slice A5 (a.length + 1) c5) := rowOf_later hr5 (by simp)
  have H5 := HI.out.at0.keep hM5 HN.out.1
  have q0 := H5.cell (o := 0) rfl
  have r0 := H5.frozen 0
  simp only [Act.put, List.setIfInBounds_toArray, List.set_cons_zero, List.set_cons_succ]
  refine take0S (v := ?v8) (oi := ?o8) 7 ?hi8 (by kernel_rfl) (by kernel_rfl) (by kernel_rfl) ?hq8 ?hy8 ?_
  case hi8 => (simp only [List.getElem?_toArray, List.getElem?_cons_zero, List.getElem?_cons_succ]; rfl)
  case hq8 => exact fun _ _ _ h => h
  case hy8 => first | (refine ry_notS ?_; rfl) | (refine ry_runS (by rfl) (fun w' hw' => ?_); go_simp; try rfl)
  simp only [Act.put, List.setIfInBounds_toArray, List.set_cons_zero, List.set_cons_succ]
  refine step0S (o := ?o9) 8 (by kernel_rfl) ?hi9 ?hw9 ?_
  case hi9 => (simp only [List.getElem?_toArray, List.getElem?_cons_zero, List.getElem?_cons_succ]; rfl)
  case hw9 => rfl
  go_simp
  refine ⟨.inr (by kernel_rfl), ?_⟩
  refine wpAnyM_done (by kernel_rfl) ?_
  have hB1 := HI.out.box1.keep hM5 HN.out.2.1
  have hB2 := HI.out.box2.keep hM5 HN.out.2.2
  have hl0 := H5.set 0 (.slice A5 (a.length + 1) c5)
  have hB1' := hB1.other (p := ⟨b0, 0, none⟩) (fun e => h10 e.symm) (.slice A5 (a.length + 1) c5)
  have hB2' := hB2.other (p := ⟨b0, 0, none⟩) (fun e => h20 e.symm) (.slice A5 (a.length + 1) c5)
  have HM5 := Lib.hid hM5
  have HO5 := Lib.hid ho5
  have HA5 := Lib.hid hl0
  have HB1 := Lib.hid hB1'
  have HB2 := Lib.hid hB2'
  have hown := own_store ho5 H5 (by decide) 0 (.slice A5 (a.length + 1) c5)
  have HR5 := Lib.hid hR5
  have hq7 : Mod (fun k => k = b0 ∨ v.ownBlock = some k) w (w5.setCell ⟨b0, 0, none⟩ (.slice A5 (a.length + 1) c5)) := Mod.setCell (hM5.mono (S' := fun k => k = b0 ∨ v.ownBlock = some k) fun k _ hk => .inr hk) (p := ⟨b0, 0, none⟩) (.inl (.inl rfl)) (.slice A5 (a.length + 1) c5)
  have HQ7 := Lib.hid hq7
  have hq6 : Mod (Q B w) w (w5.setCell ⟨b0, 0, none⟩ (.slice A5 (a.length + 1) c5)) := Mod.setCell (hM5.mono (S' := Q B w) fun k _ hk => HQ.out k hk) (p := ⟨b0, 0, none⟩) (.inl ⟨HI.out.le, _, _, _, HI.out.at0, .inr rfl⟩) (.slice A5 (a.length + 1) c5)
  have hrow := HI.out.row.keep2 hq6 (fun hne ad h h2 => by have := HI.out.low hne ad h; have := h2.1; omega)
  have HR := Lib.hid hrow
  have HQ6 := Lib.hid hq6
  have HW := Lib.hid hown
  have x26 := hB2'.cell (o := 0) rfl
  obtain ⟨w6, hw6⟩ : ∃ w6, w5.setCell ⟨b0, 0, none⟩ (.slice A5 (a.length + 1) c5) = w6 := ⟨_, rfl⟩
  rw [hw6] at HA5 HB1 HB2 HR HQ6 HQ7 HW x26
  rw [hw6]
  have HF := Lib.hid (find_calls A c objs s w6 HR.out HI.out.many)
  clear hB1 hB2 hl0 hB1' hB2' hown hq6 hrow hM5 ho5 hm5 hr5 hR5 hq7 H5 q0 r0 fv0 fv1 x0 x1 x2 f0 hw6 HM5 HO5
  go_wp2_with fail
  refine HF.out.mono ?_
  rintro e w7 ⟨rfl, rfl⟩
  go_wp2_with fail
  refine bodyPost_ret (v := .tuple #[.string (gotB (findL objs s)), .int .i64 (gotE (findL objs s))]) (by simp [results, Tryd.results42, go_sem]) rfl ⟨rfl, ⟨(.slice A5 (a.length + 1) c5), ⟨HB1.out, HB2.out, HA5.out, by simpa using HW.out, HR.out, HI.out.low, HI.out.le, HI.out.many⟩, HR5.out⟩, HQ7.out⟩

/-- the block of the objects -/
def rowN (A : Option Addr) (objs : List Ob) (k : Nat) : Prop := objs.flatMap oc ≠ [] ∧ ∃ ad, A = some ad ∧ ad.block = k
theorem rowN_lt {w : World} {A : Option Addr} {objs : List Ob} (h : Cells w A (objs.flatMap oc)) {k : Nat} (hk : rowN A objs k) : k < w.heap.size := by
  obtain ⟨hne, ad, ha, rfl⟩ := hk
  rcases h with h | ⟨b, o, rfl, hc⟩
  · exact absurd h hne
  · injection ha with ha
    subst ha
    obtain ⟨u, hu⟩ : ∃ u, (objs.flatMap oc)[0]? = some u := by
      cases hx : objs.flatMap oc with
      | nil => exact absurd hx hne
      | cons u l => exact ⟨u, rfl⟩
    exact World.block_lt_of_cell? w _ (hc 0 u hu)
def askF (B b0 b1 b2 : Nat) (A : Option Addr) (c : Nat) (objs : List Ob) : Gf where
  ks := 42
  caps := #[.pointer (some ⟨b1, 0, none⟩), .pointer (some ⟨b2, 0, none⟩)]
  N := fun k => k = b1 ∨ k = b2 ∨ rowN A objs k
  I := fun a F w => ∃ v, AskIs B b0 b1 b2 A c objs v a w ∧ F = fun k => k = b0 ∨ v.ownBlock = some k
theorem askF_ok (B b0 b1 b2 : Nat) (A : Option Addr) (c : Nat) (objs : List Ob) : GfOk (askF B b0 b1 b2 A c objs) objs where
  keep := by
    rintro a F w w' S ⟨v, h, rfl⟩ m hs
    exact ⟨v, ⟨h.box1.keep m (hs _ (.inr (.inl rfl))), h.box2.keep m (hs _ (.inr (.inr (.inl rfl)))), h.at0.keep m (hs _ (.inl (.inl rfl))), own_keep h.own m (fun k _ hk => hs k (.inl (.inr hk))),
      h.row.keep2 m (fun hne ad ha => hs _ (.inr (.inr (.inr ⟨hne, ad, ha, rfl⟩)))), h.low, h.le, h.many⟩, rfl⟩
  lt := by
    rintro a F w k ⟨v, h, rfl⟩ hk
    rcases hk with (rfl | hk) | rfl | rfl | hk
    · exact h.at0.lt
    · obtain ⟨cur, fr, hh⟩ := own_row h.own hk
      exact (Array.getElem?_eq_some_iff.1 hh).1
    · exact h.box1.lt
    · exact h.box2.lt
    · exact rowN_lt h.row hk
  enter := fun w s => by kernel_rfl
  call := by
    rintro a F w s ⟨v, h, rfl⟩ ha
    refine (asked2_calls s h ha).mono ?_
    rintro e w' ⟨rfl, ⟨v', h', hr⟩, m⟩
    refine ⟨rfl, _, ⟨v', h', rfl⟩, m, fun k hk => ?_⟩
    rcases hk with rfl | hk
    · exact .inl (.inl rfl)
    · rcases hr k hk with h1 | h1
      · exact .inl (.inr h1)
      · exact .inr h1
def fromF (B b2 : Nat) (A : Option Addr) (c : Nat) (objs : List Ob) : Gf where
  ks := 47
  caps := #[.pointer (some ⟨b2, 0, none⟩)]
  N := fun k => k = b2 ∨ rowN A objs k
  I := fun _ F w => FromIs B b2 A c objs w ∧ F = fun _ => False
theorem fromF_ok (B b2 : Nat) (A : Option Addr) (c : Nat) (objs : List Ob) : GfOk (fromF B b2 A c objs) objs where
  keep := by
    rintro a F w w' S ⟨h, rfl⟩ m hs
    exact ⟨⟨h.box2.keep m (hs _ (.inr (.inl rfl))), h.row.keep2 m (fun hne ad ha => hs _ (.inr (.inr ⟨hne, ad, ha, rfl⟩))), h.low, h.many⟩, rfl⟩
  lt := by
    rintro a F w k ⟨h, rfl⟩ hk
    rcases hk with hk | rfl | hk
    · exact hk.elim
    · exact h.box2.lt
    · exact rowN_lt h.row hk
  enter := fun w s => by kernel_rfl
  call := by
    rintro a F w s ⟨h, rfl⟩ _
    refine (from_calls s h).mono ?_
    rintro e w' ⟨rfl, rfl⟩
    exact ⟨rfl, _, ⟨h, rfl⟩, Mod.refl _ _, fun k hk => .inl hk⟩
end Prolly
end Go.Proofs.YtpoljpjcmigobaaDoor
