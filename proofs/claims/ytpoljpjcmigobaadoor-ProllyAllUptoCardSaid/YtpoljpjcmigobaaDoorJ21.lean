/- Joined texts: BlobF, BlobG. -/
import Derived.Test.YtpoljpjcmigobaaDoorJ17
import Derived.Test.YtpoljpjcmigobaaDoorJ14
/- Plain words for blob: objects, what stands at an id, a file's chunks, some of its bytes. -/
namespace Go.Proofs.YtpoljpjcmigobaaDoor
set_option linter.unusedVariables false
set_option linter.unusedSimpArgs false
open Go.RowKit K Wire
namespace Blob
open Go.Proofs.YtpoljpjcmigobaaDoor.Obj

structure Ob where
  id : ByteArray
  bytes : ByteArray
def oc (o : Ob) : List Value := [.string o.id, .string o.bytes]
theorem oc_len (o : Ob) : (oc o).length = 2 := rfl
/-- the first object of an id -/
def findL : List Ob → ByteArray → Option ByteArray
  | [], _ => none
  | o :: l, id => if o.id = id then some o.bytes else findL l id
inductive Node
  | bad (e : Int)
  | chunk (s : ByteArray)
  | fan (L : Int) (kids : List Part)
/-- what bytes say, for a part -/
noncomputable def nodeB (b : ByteArray) (p : Part) (level : Int) : Node :=
  if okChunk b = true then (if ((b.size : Int) - 1 = p.size ∧ level ≤ 0) then .chunk (b.extract 1 b.size) else .bad 101)
  else if okFan b.data.toList = true ∧ ((outFan b.data.toList).2.map (·.size)).sum = p.size ∧ (level < 0 ∨ (outFan b.data.toList).1 = level) then .fan (outFan b.data.toList).1 (outFan b.data.toList).2
  else .bad 101
noncomputable def nodeOf (objs : List Ob) (p : Part) (level : Int) : Node :=
  match findL objs p.id with
  | none => .bad 3
  | some b => nodeB b p level
/-- ids that were asked, parts, bytes, the first error -/
structure BS where
  asked : List ByteArray
  parts : List Part
  data : List UInt8
  bad : Int
def BS.ask (x : BS) (id : ByteArray) : BS := { x with asked := x.asked ++ [id] }
/-- the chunks of a part of a level -/
noncomputable def chkS (objs : List Ob) : Nat → Part → BS → BS
  | 0, p, x => if x.bad ≠ 0 then x else { x with parts := x.parts ++ [p] }
  | l + 1, p, x => if x.bad ≠ 0 then x else
      match nodeOf objs p ((l : Int) + 1) with
      | .bad e => { x.ask p.id with bad := e }
      | .chunk _ => { x.ask p.id with parts := x.parts ++ [p] }
      | .fan _ kids => kids.foldl (fun y k => chkS objs l k y) (x.ask p.id)
noncomputable def chkR (objs : List Ob) (p : Part) (x : BS) : BS :=
  match nodeOf objs p (-1) with
  | .bad e => { x.ask p.id with bad := e }
  | .chunk _ => { x.ask p.id with parts := x.parts ++ [p] }
  | .fan L kids => kids.foldl (fun y k => chkS objs (L - 1).toNat k y) (x.ask p.id)
/-- the bytes of a chunk from one place to another -/
def some_ (s : List UInt8) (a b : Int) : List UInt8 := (s.drop a.toNat).take (b.toNat - a.toNat)
noncomputable def rdS (objs : List Ob) (lo hi : Int) : Nat → Part → Int → BS → BS
  | 0, p, at_, x => if x.bad ≠ 0 ∨ ¬ (at_ < hi ∧ lo < at_ + p.size) then x else
      match nodeOf objs p 0 with
      | .bad e => { x.ask p.id with bad := e }
      | .chunk s => { x.ask p.id with data := x.data ++ some_ s.data.toList (max (lo - at_) 0) (min (hi - at_) p.size) }
      | .fan _ _ => x.ask p.id
  | l + 1, p, at_, x => if x.bad ≠ 0 ∨ ¬ (at_ < hi ∧ lo < at_ + p.size) then x else
      match nodeOf objs p ((l : Int) + 1) with
      | .bad e => { x.ask p.id with bad := e }
      | .chunk s => { x.ask p.id with data := x.data ++ some_ s.data.toList (max (lo - at_) 0) (min (hi - at_) p.size) }
      | .fan _ kids => (kids.foldl (fun y k => (y.1 + k.size, rdS objs lo hi l k y.1 y.2)) (at_, x.ask p.id)).2
noncomputable def rdR (objs : List Ob) (lo hi : Int) (p : Part) (x : BS) : BS :=
  match nodeOf objs p (-1) with
  | .bad e => { x.ask p.id with bad := e }
  | .chunk s => { x.ask p.id with data := x.data ++ some_ s.data.toList (max lo 0) (min hi p.size) }
  | .fan L kids => (kids.foldl (fun y k => (y.1 + k.size, rdS objs lo hi (L - 1).toNat k y.1 y.2)) (0, x.ask p.id)).2

theorem sum_take_le (l : List Part) (h : ∀ p ∈ l, 1 ≤ p.size) : (l.length : Int) ≤ (l.map (·.size)).sum := by
  induction l with
  | nil => simp
  | cons a l ih =>
    have := ih (fun p hp => h p (List.mem_cons_of_mem _ hp))
    have := h a (List.mem_cons_self ..)
    simp only [List.length_cons, List.map_cons, List.sum_cons]; omega
/-- what a fan that stands there has -/
theorem fan_facts {b : ByteArray} {p : Part} {level L : Int} {kids : List Part} (h : nodeB b p level = .fan L kids) :
    okChunk b = false ∧ okFan b.data.toList = true ∧ outFan b.data.toList = (L, kids) ∧ (kids.map (·.size)).sum = p.size ∧ (level < 0 ∨ L = level) ∧ 1 ≤ L ∧ L ≤ 20 ∧ 1 ≤ kids.length ∧ kids.length ≤ 32 ∧ (∀ k ∈ kids, 1 ≤ k.size ∧ k.size ≤ 262144 ∧ k.id.size = 32) := by
  unfold nodeB at h
  split at h
  · split at h <;> cases h
  · rename_i h0
    split at h
    · rename_i h1
      obtain ⟨h2, h3, h4⟩ := h1
      obtain ⟨e1, e2⟩ : (outFan b.data.toList).1 = L ∧ (outFan b.data.toList).2 = kids := by simpa using h
      have hr := (fan_sound _ h2).2
      have ho : outFan b.data.toList = (fanL b.data.toList, (rdFan b.data.toList).2) := by unfold outFan; rw [if_pos h2]
      rw [ho] at e1 e2
      dsimp only at e1 e2
      rw [e1, e2] at hr
      rw [ho, e2] at h3
      rw [ho, e1] at h4
      simp only [rightFan, inR, Bool.and_eq_true, decide_eq_true_eq] at hr
      obtain ⟨⟨⟨⟨a1, a2⟩, a3, a4⟩, a5⟩, a6⟩ := hr
      refine ⟨by simpa using h0, h2, by rw [ho, e1, e2], h3, h4, a1, a2, by omega, by omega, fun k hk => ?_⟩
      have := List.all_eq_true.1 a5 k hk
      simp only [partOk, inR, Bool.and_eq_true, decide_eq_true_eq] at this
      omega
    · cases h
theorem node_fan {objs : List Ob} {p : Part} {level L : Int} {kids : List Part} (h : nodeOf objs p level = .fan L kids) : ∃ b, findL objs p.id = some b ∧ nodeB b p level = .fan L kids := by
  unfold nodeOf at h
  cases hf : findL objs p.id with
  | none => rw [hf] at h; cases h
  | some b => rw [hf] at h; exact ⟨b, rfl, h⟩
theorem foldl_le {α β : Type} (m : β → Int) (f : β → α → β) (g : α → Int) : ∀ (l : List α) (x : β), (∀ y, ∀ a ∈ l, m (f y a) ≤ m y + g a) → m (l.foldl f x) ≤ m x + (l.map g).sum
  | [], x, _ => by simp
  | a :: l, x, h => by
    have h1 := h x a (List.mem_cons_self ..)
    have h2 := foldl_le m f g l (f x a) (fun y b hb => h y b (List.mem_cons_of_mem _ hb))
    simp only [List.foldl_cons, List.map_cons, List.sum_cons]; omega
theorem sum_mul (c : Int) (l : List Part) : (l.map (fun k => c * k.size)).sum = c * (l.map (·.size)).sum := by
  induction l with
  | nil => simp
  | cons a l ih => simp only [List.map_cons, List.sum_cons, ih, Int.mul_add]
theorem chkS_asked (objs : List Ob) : ∀ (l : Nat) (p : Part) (x : BS), 1 ≤ p.size → ((chkS objs l p x).asked.length : Int) ≤ x.asked.length + (l : Int) * p.size
  | 0, p, x, h => by unfold chkS; split <;> simp
  | l + 1, p, x, h => by
    have e : (((l + 1 : Nat) : Int)) * p.size = (l : Int) * p.size + p.size := by push_cast; rw [Int.add_mul, Int.one_mul]
    have h0 : 0 ≤ (l : Int) * p.size := Int.mul_nonneg (by omega) (by omega)
    rw [e]
    unfold chkS
    split
    · omega
    · cases hn : nodeOf objs p ((l : Int) + 1) with
      | bad e => simp only [BS.ask, List.length_append, List.length_cons, List.length_nil]; omega
      | chunk s => simp only [BS.ask, List.length_append, List.length_cons, List.length_nil]; omega
      | fan L kids =>
        obtain ⟨b, _, hb⟩ := node_fan hn
        obtain ⟨_, _, _, hs, _, _, _, _, _, hk⟩ := fan_facts hb
        have := foldl_le (fun y : BS => (y.asked.length : Int)) (fun y k => chkS objs l k y) (fun k => (l : Int) * k.size) kids (x.ask p.id) (fun y a ha => chkS_asked objs l a y (hk a ha).1)
        rw [sum_mul, hs] at this
        simp only [BS.ask, List.length_append, List.length_cons, List.length_nil] at this ⊢
        omega
theorem chkS_parts (objs : List Ob) : ∀ (l : Nat) (p : Part) (x : BS), 1 ≤ p.size → ((chkS objs l p x).parts.length : Int) ≤ x.parts.length + p.size
  | 0, p, x, h => by
    unfold chkS
    split
    · omega
    · simp; omega
  | l + 1, p, x, h => by
    unfold chkS
    split
    · omega
    · cases hn : nodeOf objs p ((l : Int) + 1) with
      | bad e => simp only [BS.ask]; omega
      | chunk s => simp only [BS.ask, List.length_append, List.length_cons, List.length_nil]; omega
      | fan L kids =>
        obtain ⟨b, _, hb⟩ := node_fan hn
        obtain ⟨_, _, _, hs, _, _, _, _, _, hk⟩ := fan_facts hb
        have := foldl_le (fun y : BS => (y.parts.length : Int)) (fun y k => chkS objs l k y) (fun k => k.size) kids (x.ask p.id) (fun y a ha => chkS_parts objs l a y (hk a ha).1)
        rw [hs] at this
        simp only [BS.ask] at this ⊢
        omega
theorem chkS_bad (objs : List Ob) (l : Nat) (p : Part) (x : BS) (h : x.bad ≠ 0) : chkS objs l p x = x := by
  cases l <;> (unfold chkS; rw [if_pos h])
theorem chkF_bad (objs : List Ob) (l : Nat) : ∀ (kids : List Part) (x : BS), x.bad ≠ 0 → kids.foldl (fun y k => chkS objs l k y) x = x
  | [], _, _ => rfl
  | a :: kids, x, h => by rw [List.foldl_cons, chkS_bad objs l a x h]; exact chkF_bad objs l kids x h
end Blob
end Go.Proofs.YtpoljpjcmigobaaDoor
/- Plain words for blob: how parts are grouped, levels, what a file's bytes make. -/
namespace Go.Proofs.YtpoljpjcmigobaaDoor
set_option linter.unusedVariables false
set_option linter.unusedSimpArgs false
open Go.RowKit K Wire
namespace Blob
open Go.Proofs.YtpoljpjcmigobaaDoor.Obj

def endsG (n : Nat) (id : ByteArray) : Bool := (decide (2 ≤ n) && decide ((id.data.toList.getD 31 0).toNat % 8 = 0)) || decide (n = 32)
/-- the groups of parts, some of the first one taken already -/
def gr : List Part → List Part → List (List Part)
  | acc, [] => if acc.isEmpty then [] else [acc]
  | acc, k :: r => if endsG (acc.length + 1) k.id then (acc ++ [k]) :: gr [] r else gr (acc ++ [k]) r
/-- how many of them the first one has -/
def gN : Nat → List Part → Nat
  | n, [] => n
  | n, k :: r => if endsG (n + 1) k.id then n + 1 else gN (n + 1) r
theorem gr_nil (acc : List Part) : gr acc [] = if acc.isEmpty then [] else [acc] := by rw [gr]
theorem gr_cons (acc : List Part) (k : Part) (r : List Part) : gr acc (k :: r) = if endsG (acc.length + 1) k.id then (acc ++ [k]) :: gr [] r else gr (acc ++ [k]) r := by rw [gr]
theorem gN_cons (n : Nat) (k : Part) (r : List Part) : gN n (k :: r) = if endsG (n + 1) k.id then n + 1 else gN (n + 1) r := by rw [gN]
theorem gN_bounds : ∀ (l : List Part) (n : Nat), n ≤ gN n l ∧ gN n l ≤ n + l.length ∧ (l ≠ [] → n < gN n l)
  | [], n => by simp [gN]
  | k :: r, n => by
    rw [gN_cons]
    split
    · first | (simp; done) | (simp; omega)
    · have := gN_bounds r (n + 1)
      simp only [List.length_cons]; omega
theorem gr_first : ∀ (l acc : List Part), acc ++ l ≠ [] → gr acc l = (acc ++ l).take (gN acc.length l) :: gr [] ((acc ++ l).drop (gN acc.length l))
  | [], acc, h => by
    have : acc ≠ [] := by simpa using h
    have h2 : acc.isEmpty = false := by cases acc <;> simp_all
    simp [gr, gN, h2]
  | k :: r, acc, _ => by
    rw [gr_cons, gN_cons]
    split
    · rw [show acc ++ k :: r = (acc ++ [k]) ++ r by simp, List.take_left' (by simp), List.drop_left' (by simp)]
    · have := gr_first r (acc ++ [k]) (by simp)
      rw [this, show acc ++ k :: r = (acc ++ [k]) ++ r by simp]
      simp
theorem gr_flat : ∀ (l acc : List Part), (gr acc l).flatten = acc ++ l
  | [], acc => by
    rw [gr_nil]
    split
    · rename_i h; cases acc <;> simp_all
    · simp
  | k :: r, acc => by
    rw [gr_cons]
    split
    · simp [gr_flat r []]
    · rw [gr_flat r (acc ++ [k])]; simp
theorem gr_small : ∀ (l acc : List Part), acc.length < 32 → ∀ g ∈ gr acc l, 1 ≤ g.length ∧ g.length ≤ 32
  | [], acc, h => by
    rw [gr_nil]
    split
    · simp
    · rename_i h1
      intro g hg
      rw [List.mem_singleton.1 hg]
      have : acc ≠ [] := fun e => h1 (by rw [e]; rfl)
      have := List.length_pos_iff.2 this
      omega
  | k :: r, acc, h => by
    rw [gr_cons]
    split
    · intro g hg
      rcases List.mem_cons.1 hg with rfl | hg
      · simp; omega
      · exact gr_small r [] (by simp) g hg
    · rename_i h1
      have : acc.length + 1 ≠ 32 := fun e => h1 (by simp [endsG, e])
      exact gr_small r (acc ++ [k]) (by simp; omega)
theorem gr_many : ∀ (l acc : List Part), 2 * (gr acc l).length ≤ acc.length + l.length + 1
  | [], acc => by
    rw [gr_nil]
    split
    · simp
    · rename_i h1
      have : acc ≠ [] := fun e => h1 (by rw [e]; rfl)
      have := List.length_pos_iff.2 this
      simp; omega
  | k :: r, acc => by
    rw [gr_cons]
    split
    · rename_i h1
      have := gr_many r []
      have h2 : 2 ≤ acc.length + 1 := by
        simp only [endsG, Bool.or_eq_true, Bool.and_eq_true, decide_eq_true_eq] at h1
        omega
      simp only [List.length_cons, List.length_nil] at this ⊢; omega
    · have := gr_many r (acc ++ [k])
      simp only [List.length_cons, List.length_append, List.length_nil] at this ⊢; omega
theorem gr_pos (l acc : List Part) (h : acc ++ l ≠ []) : 1 ≤ (gr acc l).length := by rw [gr_first l acc h]; simp

def shaS (l : List UInt8) : ByteArray := ⟨(Hash.sha l).toArray⟩
def fanOb (level : Int) (kids : List Part) : Ob := if rightFan level kids then ⟨shaS (fanB level kids), ⟨(fanB level kids).toArray⟩⟩ else ⟨⟨#[]⟩, ⟨#[]⟩⟩
def sizes (l : List Part) : Int := (l.map (·.size)).sum
def fanPart (level : Int) (kids : List Part) : Part := ⟨(fanOb level kids).id, sizes kids⟩
def levelsL : Nat → Int → List Part → List Part × List Ob
  | 0, _, l => (l, [])
  | n + 1, level, l => if l.length ≤ 1 then (l, []) else
    ((levelsL n (level + 1) ((gr [] l).map (fanPart level))).1, (gr [] l).map (fanOb level) ++ (levelsL n (level + 1) ((gr [] l).map (fanPart level))).2)
/-- each id once -/
def keepL (l : List Ob) (o : Ob) : List Ob := if l.any (fun x => decide (x.id = o.id)) then l else l ++ [o]
def keptL (l : List Ob) : List Ob := l.foldl keepL []
theorem keptL_snoc (l : List Ob) (o : Ob) : keptL (l ++ [o]) = keepL (keptL l) o := by unfold keptL; rw [List.foldl_append]; rfl
theorem keptL_len (l : List Ob) : (keptL l).length ≤ l.length := by
  have : ∀ (l acc : List Ob), (l.foldl keepL acc).length ≤ acc.length + l.length := by
    intro l
    induction l with
    | nil => simp
    | cons a l ih =>
      intro acc
      have := ih (keepL acc a)
      have h : (keepL acc a).length ≤ acc.length + 1 := by unfold keepL; split <;> simp
      simp only [List.foldl_cons, List.length_cons]; omega
  simpa [keptL] using this l []
theorem keepL_mem (l : List Ob) (o : Ob) (id : ByteArray) : (∃ x ∈ keepL l o, x.id = id) ↔ (∃ x ∈ l, x.id = id) ∨ o.id = id := by
  unfold keepL
  split
  · rename_i h
    obtain ⟨y, hy, he⟩ := List.any_eq_true.1 h
    have he : y.id = o.id := by simpa using he
    constructor
    · exact .inl
    · rintro (h | h)
      · exact h
      · exact ⟨y, hy, he.trans h⟩
  · constructor
    · rintro ⟨x, hx, he⟩
      rcases List.mem_append.1 hx with hx | hx
      · exact .inl ⟨x, hx, he⟩
      · obtain rfl := List.mem_singleton.1 hx; exact .inr he
    · rintro (⟨x, hx, he⟩ | h)
      · exact ⟨x, List.mem_append_left _ hx, he⟩
      · exact ⟨o, by simp, h⟩
/-- what parts of a level must be for the next one to be made -/
structure PartsOk (l : List Part) : Prop where
  one : ∀ p ∈ l, 1 ≤ p.size ∧ p.id.size = 32
  sum : sizes l ≤ 262144
theorem sizes_append (a b : List Part) : sizes (a ++ b) = sizes a + sizes b := by simp [sizes]
theorem sizes_nonneg {l : List Part} (h : ∀ p ∈ l, 1 ≤ p.size ∧ p.id.size = 32) : (l.length : Int) ≤ sizes l := sum_take_le l (fun p hp => (h p hp).1)
end Blob
end Go.Proofs.YtpoljpjcmigobaaDoor
