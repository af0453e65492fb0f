/- Joined texts: ProI, ProJ, ProK. -/
import Derived.Test.YtpoljpjcmigobaaDoorJ23
import Derived.Test.YtpoljpjcmigobaaDoorJ24
import Derived.Test.YtpoljpjcmigobaaDoorJ28
import Derived.Test.YtpoljpjcmigobaaDoorJ27
/- Plain words for prolly's lists: what is asked, what comes, the first error. -/
namespace Go.Proofs.YtpoljpjcmigobaaDoor
set_option linter.unusedVariables false
set_option linter.unusedSimpArgs false
open Go.RowKit K Wire
namespace Prolly
open Go.Proofs.YtpoljpjcmigobaaDoor.Obj Go.Proofs.YtpoljpjcmigobaaDoor.Blob

/-- is a key between? -/
def isIn (lo hi key : ByteArray) : Bool := !ltS key lo && (hi.toList.isEmpty || ltS key hi)
/-- is a kid the last one that is gone to? -/
def ends (hi last : ByteArray) : Bool := !hi.toList.isEmpty && !ltS last hi
structure LS where
  asked : List ByteArray
  out : List Pair
  bad : Int
def LS.ask (x : LS) (id : ByteArray) : LS := { x with asked := x.asked ++ [id] }
def lastO (l : List Pair) : ByteArray := (l.getLast?.map (·.key)).getD ⟨#[]⟩
def putP (x : LS) (p : Pair) : LS :=
  if x.bad ≠ 0 then x else if x.out ≠ [] ∧ ltS (lastO x.out) p.key = false then { x with bad := 122 } else { x with out := x.out ++ [p] }
def leafS (lo hi : ByteArray) (ps : List Pair) (x : LS) : LS := ps.foldl (fun x p => if isIn lo hi p.key then putP x p else x) x
def kidS (rec : Link → LS → LS) (lo : ByteArray) (k : Link) (x : LS) : LS := if x.bad = 0 ∧ ltS k.last lo = false then rec k x else x
def kidsS (rec : Link → LS → LS) (lo hi : ByteArray) : List Link → LS → LS
  | [], x => x
  | k :: ks, x => if ends hi k.last then kidS rec lo k x else kidsS rec lo hi ks (kidS rec lo k x)
def goesN (objs : List Ob) (lo hi : ByteArray) (rec : Int → Link → LS → LS) (level : Int) (k : Link) (x : LS) : LS :=
  match pnodeOf objs k level with
  | .bad e => { x.ask k.id with bad := e }
  | .leaf ps => leafS lo hi ps (x.ask k.id)
  | .branch L kids => kidsS (rec (L - 1)) lo hi kids (x.ask k.id)
/-- with so many levels below -/
def goesS (objs : List Ob) (lo hi : ByteArray) : Nat → Int → Link → LS → LS
  | 0 => fun _ _ x => x
  | f + 1 => goesN objs lo hi (goesS objs lo hi f)
def goesR (objs : List Ob) (lo hi root : ByteArray) : LS := goesS objs lo hi 30 (-1) (link0 root) ⟨[], [], 0⟩
/-- the reference's list -/
def listL (objs : List Ob) (lo hi root : ByteArray) : List Pair × List ByteArray × Int :=
  (if (goesR objs lo hi root).bad = 0 then (goesR objs lo hi root).out else [], (goesR objs lo hi root).asked, (goesR objs lo hi root).bad)
def manyR (objs : List Ob) (root : ByteArray) : Int × Int :=
  match pnodeOf objs (link0 root) (-1) with
  | .bad e => (0, e)
  | .leaf ps => (ps.length, 0)
  | .branch _ kids => (manyL kids, 0)

/-! the program's walk: whoever is told -/
section
variable {σ : Type} (step : σ → Pair → Int → Bool × σ)
def leafW (lo hi : ByteArray) : List Pair → σ → Bool × σ
  | [], s => (true, s)
  | p :: ps, s => if isIn lo hi p.key then (if (step s p 0).1 then leafW lo hi ps (step s p 0).2 else (false, (step s p 0).2)) else leafW lo hi ps s
def kidsW (rec : Link → List ByteArray × σ → Bool × List ByteArray × σ) (lo hi : ByteArray) : List Link → List ByteArray × σ → Bool × List ByteArray × σ
  | [], x => (true, x)
  | k :: ks, x =>
    if ltS k.last lo = false then
      (if (rec k x).1 then (if ends hi k.last then (true, (rec k x).2) else kidsW rec lo hi ks (rec k x).2) else (false, (rec k x).2))
    else (if ends hi k.last then (true, x) else kidsW rec lo hi ks x)
def pair0 : Pair := ⟨⟨#[]⟩, ⟨#[]⟩⟩
def walkN (objs : List Ob) (lo hi : ByteArray) (rec : Int → Link → List ByteArray × σ → Bool × List ByteArray × σ) (level : Int) (k : Link) (x : List ByteArray × σ) : Bool × List ByteArray × σ :=
  match pnodeOf objs k level with
  | .bad e => (false, x.1 ++ [k.id], (step x.2 pair0 e).2)
  | .leaf ps => ((leafW step lo hi ps x.2).1, x.1 ++ [k.id], (leafW step lo hi ps x.2).2)
  | .branch L kids => kidsW (rec (L - 1)) lo hi kids (x.1 ++ [k.id], x.2)
def walkS (objs : List Ob) (lo hi : ByteArray) : Nat → Int → Link → List ByteArray × σ → Bool × List ByteArray × σ
  | 0 => fun _ _ x => (true, x)
  | f + 1 => walkN step objs lo hi (walkS objs lo hi f)
end
/-- between's own: keys rise -/
def stepB {σ : Type} (step : σ → Pair → Int → Bool × σ) (x : ByteArray × σ) (p : Pair) (e : Int) : Bool × ByteArray × σ :=
  if e = 0 ∧ ltS x.1 p.key = false then (false, x.1, (step x.2 pair0 122).2) else ((step x.2 p e).1, p.key, (step x.2 p e).2)

/-! one and the other -/
section
variable {σ : Type} {step : σ → Pair → Int → Bool × σ} {Rel : LS → σ → Prop} {Stop : LS → σ → Prop}
/-- what a step does to what is listed -/
structure Agrees (step : σ → Pair → Int → Bool × σ) (Rel : LS → σ → Prop) (Stop : LS → σ → Prop) : Prop where
  ok : ∀ x s, Rel x s → x.bad = 0
  ask : ∀ x s id, Rel x s → Rel (x.ask id) s
  pair : ∀ x s p, Rel x s → 1 ≤ p.key.size → if (putP x p).bad = 0 then (step s p 0).1 = true ∧ Rel (putP x p) (step s p 0).2 else (step s p 0).1 = false ∧ Stop (putP x p) (step s p 0).2
  err : ∀ x s e, Rel x s → e ≠ 0 → Stop { x with bad := e } (step s pair0 e).2
def Out (Rel Stop : LS → σ → Prop) (x : LS) (c : Bool) (s : σ) : Prop := if x.bad = 0 then c = true ∧ Rel x s else c = false ∧ Stop x s
theorem putP_bad {x : LS} (h : x.bad ≠ 0) (p : Pair) : putP x p = x := by unfold putP; rw [if_pos h]
theorem leafS_bad (lo hi : ByteArray) : ∀ (ps : List Pair) (x : LS), x.bad ≠ 0 → leafS lo hi ps x = x
  | [], _, _ => rfl
  | p :: ps, x, h => by
    unfold leafS
    rw [List.foldl_cons]
    split
    · rw [putP_bad h]; exact leafS_bad lo hi ps x h
    · exact leafS_bad lo hi ps x h
theorem kidsS_bad (rec : Link → LS → LS) (lo hi : ByteArray) : ∀ (ks : List Link) (x : LS), x.bad ≠ 0 → kidsS rec lo hi ks x = x
  | [], _, _ => rfl
  | k :: ks, x, h => by
    have e : kidS rec lo k x = x := by unfold kidS; rw [if_neg (fun h2 => h h2.1)]
    unfold kidsS
    rw [e]
    split
    · rfl
    · exact kidsS_bad rec lo hi ks x h
theorem leaf_agrees (H : Agrees step Rel Stop) (lo hi : ByteArray) : ∀ (ps : List Pair) (x : LS) (s : σ), Rel x s → (∀ p ∈ ps, 1 ≤ p.key.size) → Out Rel Stop (leafS lo hi ps x) (leafW step lo hi ps s).1 (leafW step lo hi ps s).2
  | [], x, s, h, _ => by unfold Out leafS leafW; rw [List.foldl_nil, if_pos (H.ok x s h)]; exact ⟨rfl, h⟩
  | p :: ps, x, s, h, hp => by
    have hl : leafS lo hi (p :: ps) x = leafS lo hi ps (if isIn lo hi p.key then putP x p else x) := rfl
    rw [hl]
    unfold leafW
    by_cases hi' : isIn lo hi p.key = true
    · rw [if_pos hi', if_pos hi']
      have h1 := H.pair x s p h (hp p (List.mem_cons_self ..))
      by_cases hb : (putP x p).bad = 0
      · rw [if_pos hb] at h1
        rw [if_pos h1.1]
        exact leaf_agrees H lo hi ps _ _ h1.2 (fun q hq => hp q (List.mem_cons_of_mem _ hq))
      · rw [if_neg hb] at h1
        rw [if_neg (by rw [h1.1]; decide), leafS_bad lo hi ps _ hb]
        unfold Out
        rw [if_neg hb]
        exact ⟨rfl, h1.2⟩
    · rw [if_neg hi', if_neg hi']
      exact leaf_agrees H lo hi ps x s h (fun q hq => hp q (List.mem_cons_of_mem _ hq))
theorem kids_agrees (H : Agrees step Rel Stop) (lo hi : ByteArray) (r1 : Link → LS → LS) (r2 : Link → List ByteArray × σ → Bool × List ByteArray × σ) : ∀ (ks : List Link)
    (_ : ∀ k ∈ ks, ∀ x s, Rel x s → Out Rel Stop (r1 k x) (r2 k (x.asked, s)).1 (r2 k (x.asked, s)).2.2 ∧ (r2 k (x.asked, s)).2.1 = (r1 k x).asked) (x : LS) (s : σ), Rel x s →
    Out Rel Stop (kidsS r1 lo hi ks x) (kidsW r2 lo hi ks (x.asked, s)).1 (kidsW r2 lo hi ks (x.asked, s)).2.2 ∧ (kidsW r2 lo hi ks (x.asked, s)).2.1 = (kidsS r1 lo hi ks x).asked
  | [], _, x, s, h => by unfold kidsS kidsW Out; rw [if_pos (H.ok x s h)]; exact ⟨⟨rfl, h⟩, rfl⟩
  | k :: ks, hr, x, s, h => by
    have hb := H.ok x s h
    have hr2 := fun k' hk' => hr k' (List.mem_cons_of_mem _ hk')
    unfold kidsS kidsW
    by_cases hlo : ltS k.last lo = false
    · rw [if_pos hlo, show kidS r1 lo k x = r1 k x by unfold kidS; rw [if_pos ⟨hb, hlo⟩]]
      obtain ⟨h1, h2⟩ := hr k (List.mem_cons_self ..) x s h
      generalize r1 k x = x1 at *
      generalize r2 k (x.asked, s) = y at *
      obtain ⟨c, a, s1⟩ := y
      dsimp only at *
      subst h2
      by_cases hb1 : x1.bad = 0
      · unfold Out at h1
        rw [if_pos hb1] at h1
        obtain ⟨rfl, h1⟩ := h1
        rw [if_pos rfl]
        by_cases he : ends hi k.last = true
        · rw [if_pos he, if_pos he]
          refine ⟨?_, rfl⟩
          unfold Out; rw [if_pos hb1]; exact ⟨rfl, h1⟩
        · rw [if_neg he, if_neg he]
          exact kids_agrees H lo hi r1 r2 ks hr2 x1 s1 h1
      · have h1' := h1
        unfold Out at h1'
        rw [if_neg hb1] at h1'
        obtain ⟨rfl, h1'⟩ := h1'
        rw [kidsS_bad r1 lo hi ks x1 hb1]
        simp only [ite_self, Bool.false_eq_true, if_false]
        exact ⟨h1, trivial⟩
    · rw [if_neg hlo, show kidS r1 lo k x = x by unfold kidS; rw [if_neg (fun h2 => hlo h2.2)]]
      by_cases he : ends hi k.last = true
      · rw [if_pos he, if_pos he]
        refine ⟨?_, rfl⟩
        unfold Out; rw [if_pos hb]; exact ⟨rfl, h⟩
      · rw [if_neg he, if_neg he]
        exact kids_agrees H lo hi r1 r2 ks hr2 x s h
theorem walk_agrees (H : Agrees step Rel Stop) (objs : List Ob) (lo hi : ByteArray) : ∀ (f : Nat) (level : Int) (k : Link) (x : LS) (s : σ), Rel x s →
    Out Rel Stop (goesS objs lo hi f level k x) (walkS step objs lo hi f level k (x.asked, s)).1 (walkS step objs lo hi f level k (x.asked, s)).2.2 ∧ (walkS step objs lo hi f level k (x.asked, s)).2.1 = (goesS objs lo hi f level k x).asked
  | 0, level, k, x, s, h => by unfold goesS walkS Out; rw [if_pos (H.ok x s h)]; exact ⟨⟨rfl, h⟩, rfl⟩
  | f + 1, level, k, x, s, h => by
    show Out Rel Stop (goesN objs lo hi (goesS objs lo hi f) level k x) (walkN step objs lo hi (walkS step objs lo hi f) level k (x.asked, s)).1 (walkN step objs lo hi (walkS step objs lo hi f) level k (x.asked, s)).2.2 ∧ (walkN step objs lo hi (walkS step objs lo hi f) level k (x.asked, s)).2.1 = (goesN objs lo hi (goesS objs lo hi f) level k x).asked
    unfold goesN walkN
    cases hn : pnodeOf objs k level with
    | bad e =>
      have he : e ≠ 0 := by have := pnode_bad hn; omega
      dsimp only
      refine ⟨?_, rfl⟩
      unfold Out
      rw [if_neg he]
      exact ⟨rfl, H.err (x.ask k.id) s e (H.ask x s k.id h) he⟩
    | leaf ps =>
      obtain ⟨b, _, hb⟩ := pnode_leaf hn
      obtain ⟨_, _, _, _, _, hk⟩ := leaf_facts hb
      dsimp only
      refine ⟨leaf_agrees H lo hi ps (x.ask k.id) s (H.ask x s k.id h) (fun p hp => (hk p hp).1), ?_⟩
      have hl : ∀ (ps : List Pair) (x : LS), (leafS lo hi ps x).asked = x.asked := by
        intro ps
        induction ps with
        | nil => intro x; rfl
        | cons p ps ih =>
          intro x
          have e : leafS lo hi (p :: ps) x = leafS lo hi ps (if isIn lo hi p.key then putP x p else x) := rfl
          rw [e, ih]
          split
          · unfold putP; split
            · rfl
            · split <;> rfl
          · rfl
      rw [hl]; rfl
    | branch L kids =>
      dsimp only
      exact kids_agrees H lo hi _ _ kids (fun k' _ x' s' h' => walk_agrees H objs lo hi f (L - 1) k' x' s' h') (x.ask k.id) s (H.ask x s k.id h)
end
end Prolly
end Go.Proofs.YtpoljpjcmigobaaDoor
/- Plain bounds for prolly's lists: how much is asked, how many pairs come. -/
namespace Go.Proofs.YtpoljpjcmigobaaDoor
set_option linter.unusedVariables false
set_option linter.unusedSimpArgs false
open Go.RowKit K Wire
namespace Prolly
open Go.Proofs.YtpoljpjcmigobaaDoor.Obj Go.Proofs.YtpoljpjcmigobaaDoor.Blob

def needA (level : Int) (k : Link) : Int := if level < 0 then 100000 else (level + 1) * k.many
def needO (level : Int) (k : Link) : Int := if level < 0 then 5000 else k.many
def LOk (level : Int) (k : Link) : Prop := level = -1 ∨ (0 ≤ level ∧ level ≤ 20 ∧ 1 ≤ k.many ∧ k.many ≤ 4096)
theorem manyL_cons (k : Link) (ks : List Link) : manyL (k :: ks) = k.many + manyL ks := by simp [manyL]
theorem manyL_pos {ks : List Link} (h : ∀ k ∈ ks, 1 ≤ k.many ∧ k.many ≤ 4096) : 0 ≤ manyL ks := by
  have := many_take h ks.length
  rw [List.take_length] at this
  exact this.1
/-- what a branch needs, its kids need no more -/
theorem need_branch {b : ByteArray} {k : Link} {level L : Int} {kids : List Link} (h : pnodeB b k level = .branch L kids) (hk : LOk level k) : 1 + L * manyL kids ≤ needA level k ∧ manyL kids ≤ needO level k := by
  obtain ⟨_, _, _, h1, h2, h3, _, _, _, h4, h5⟩ := branch_facts h
  have hm := manyL_pos (fun q hq => ⟨(h5 q hq).1, (h5 q hq).2.1⟩)
  unfold needA needO
  rcases hk with rfl | ⟨a1, a2, a3, a4⟩
  · rw [if_pos (by omega), if_pos (by omega)]
    have : L * manyL kids ≤ 20 * manyL kids := Int.mul_le_mul_of_nonneg_right h3 hm
    omega
  · rw [if_neg (by omega), if_neg (by omega)]
    rcases h1 with h1 | ⟨rfl, e, _⟩
    · omega
    · rw [e, Int.add_mul, Int.one_mul]; omega
theorem need_leaf {b : ByteArray} {k : Link} {level : Int} {ps : List Pair} (h : pnodeB b k level = .leaf ps) (hk : LOk level k) : 1 ≤ needA level k ∧ (ps.length : Int) ≤ needO level k := by
  obtain ⟨_, _, h1, h2, _, _⟩ := leaf_facts h
  unfold needA needO
  rcases hk with rfl | ⟨a1, a2, a3, a4⟩
  · rw [if_pos (by omega), if_pos (by omega)]; omega
  · rw [if_neg (by omega), if_neg (by omega)]
    rcases h1 with h1 | ⟨rfl, _, e, _⟩
    · omega
    · omega
theorem need_bad {level : Int} {k : Link} (hk : LOk level k) : 1 ≤ needA level k ∧ 0 ≤ needO level k := by
  unfold needA needO
  rcases hk with rfl | ⟨a1, a2, a3, a4⟩
  · rw [if_pos (by omega), if_pos (by omega)]; omega
  · rw [if_neg (by omega), if_neg (by omega)]
    refine ⟨?_, by omega⟩
    have : 1 * k.many ≤ (level + 1) * k.many := Int.mul_le_mul_of_nonneg_right (by omega) (by omega)
    omega
theorem kid_ok {b : ByteArray} {k : Link} {level L : Int} {kids : List Link} (h : pnodeB b k level = .branch L kids) : ∀ q ∈ kids, LOk (L - 1) q ∧ needA (L - 1) q = L * q.many ∧ needO (L - 1) q = q.many := fun q hq => by
  obtain ⟨_, _, _, _, h2, h3, _, _, _, _, h5⟩ := branch_facts h
  have := h5 q hq
  refine ⟨.inr ⟨by omega, by omega, this.1, this.2.1⟩, ?_, ?_⟩
  · unfold needA; rw [if_neg (by omega)]; congr 1; omega
  · unfold needO; rw [if_neg (by omega)]
theorem leafS_asked (lo hi : ByteArray) : ∀ (ps : List Pair) (x : LS), (leafS lo hi ps x).asked = x.asked ∧ (leafS lo hi ps x).out.length ≤ x.out.length + ps.length
  | [], x => ⟨rfl, Nat.le_refl _⟩
  | p :: ps, x => by
    have e : leafS lo hi (p :: ps) x = leafS lo hi ps (if isIn lo hi p.key then putP x p else x) := rfl
    obtain ⟨h1, h2⟩ := leafS_asked lo hi ps (if isIn lo hi p.key then putP x p else x)
    rw [e, h1]
    have h3 : (if isIn lo hi p.key then putP x p else x).asked = x.asked ∧ (if isIn lo hi p.key then putP x p else x).out.length ≤ x.out.length + 1 := by
      split
      · unfold putP
        split
        · exact ⟨rfl, by omega⟩
        · split
          · exact ⟨rfl, Nat.le_succ _⟩
          · exact ⟨rfl, by simp⟩
      · exact ⟨rfl, by omega⟩
    refine ⟨h3.1, ?_⟩
    simp only [List.length_cons]; omega
theorem kidsS_len {r : Link → LS → LS} {lo hi : ByteArray} {L : Int} : ∀ (ks : List Link) (_ : ∀ k ∈ ks, 1 ≤ k.many ∧ k.many ≤ 4096) (_ : 1 ≤ L)
    (_ : ∀ k ∈ ks, ∀ x, ((r k x).asked.length : Int) ≤ x.asked.length + L * k.many ∧ ((r k x).out.length : Int) ≤ x.out.length + k.many) (x : LS),
    ((kidsS r lo hi ks x).asked.length : Int) ≤ x.asked.length + L * manyL ks ∧ ((kidsS r lo hi ks x).out.length : Int) ≤ x.out.length + manyL ks
  | [], _, _, _, x => by simp [kidsS, manyL]
  | k :: ks, hk, hL, hr, x => by
    have hk1 := hk k (List.mem_cons_self ..)
    have hk2 := fun q hq => hk q (List.mem_cons_of_mem k hq)
    have hpos := manyL_pos hk2
    have hp1 : 0 ≤ L * manyL ks := Int.mul_nonneg (by omega) hpos
    have hp2 : 0 ≤ L * k.many := Int.mul_nonneg (by omega) (by omega)
    have h1 : ((kidS r lo k x).asked.length : Int) ≤ x.asked.length + L * k.many ∧ ((kidS r lo k x).out.length : Int) ≤ x.out.length + k.many := by
      unfold kidS
      split
      · exact hr k (List.mem_cons_self ..) x
      · omega
    unfold kidsS
    rw [manyL_cons, Int.mul_add]
    split
    · omega
    · have h2 := kidsS_len (lo := lo) (hi := hi) ks hk2 hL (fun q hq => hr q (List.mem_cons_of_mem k hq)) (kidS r lo k x)
      omega
theorem goes_len (objs : List Ob) (lo hi : ByteArray) : ∀ (f : Nat) (level : Int) (k : Link) (x : LS), LOk level k →
    ((goesS objs lo hi f level k x).asked.length : Int) ≤ x.asked.length + needA level k ∧ ((goesS objs lo hi f level k x).out.length : Int) ≤ x.out.length + needO level k
  | 0, level, k, x, h => by
    have := need_bad h
    simp only [goesS]; omega
  | f + 1, level, k, x, h => by
    show ((goesN objs lo hi (goesS objs lo hi f) level k x).asked.length : Int) ≤ _ ∧ ((goesN objs lo hi (goesS objs lo hi f) level k x).out.length : Int) ≤ _
    unfold goesN
    cases hn : pnodeOf objs k level with
    | bad e =>
      have := need_bad h
      simp only [LS.ask, List.length_append, List.length_cons, List.length_nil]; omega
    | leaf ps =>
      obtain ⟨b, _, hb⟩ := pnode_leaf hn
      have h1 := need_leaf hb h
      obtain ⟨h2, h3⟩ := leafS_asked lo hi ps (x.ask k.id)
      dsimp only
      rw [h2]
      simp only [LS.ask, List.length_append, List.length_cons, List.length_nil] at h3 ⊢
      omega
    | branch L kids =>
      obtain ⟨b, _, hb⟩ := pnode_branch hn
      have h1 := need_branch hb h
      have hko := kid_ok hb
      obtain ⟨_, _, _, _, h2, _, _, _, _, _, h5⟩ := branch_facts hb
      have h3 := kidsS_len (r := goesS objs lo hi f (L - 1)) (lo := lo) (hi := hi) (L := L) kids (fun q hq => ⟨(h5 q hq).1, (h5 q hq).2.1⟩) h2 (fun q hq y => by
        have := goes_len objs lo hi f (L - 1) q y (hko q hq).1
        rwa [(hko q hq).2.1, (hko q hq).2.2] at this) (x.ask k.id)
      dsimp only
      simp only [LS.ask, List.length_append, List.length_cons, List.length_nil] at h3 ⊢
      omega
section
variable {σ : Type} {step : σ → Pair → Int → Bool × σ} {cnt : σ → Nat}
theorem leafW_len (hs : ∀ s p, (step s p 0).1 = true → cnt (step s p 0).2 ≤ cnt s + 1) (lo hi : ByteArray) : ∀ (ps : List Pair) (s : σ), (leafW step lo hi ps s).1 = true → cnt (leafW step lo hi ps s).2 ≤ cnt s + ps.length
  | [], s, _ => Nat.le_refl _
  | p :: ps, s, h => by
    unfold leafW at h ⊢
    split
    · rename_i h1
      rw [if_pos h1] at h
      split
      · rename_i h2
        rw [if_pos h2] at h
        have := hs s p h2
        have := leafW_len hs lo hi ps _ h
        simp only [List.length_cons]; omega
      · rename_i h2
        rw [if_neg h2] at h
        cases h
    · rename_i h1
      rw [if_neg h1] at h
      have := leafW_len hs lo hi ps _ h
      simp only [List.length_cons]; omega
theorem kidsW_len {r : Link → List ByteArray × σ → Bool × List ByteArray × σ} {lo hi : ByteArray} {L : Int} : ∀ (ks : List Link) (_ : ∀ k ∈ ks, 1 ≤ k.many ∧ k.many ≤ 4096) (_ : 1 ≤ L)
    (_ : ∀ k ∈ ks, ∀ x, (r k x).1 = true → ((r k x).2.1.length : Int) ≤ x.1.length + L * k.many ∧ (cnt (r k x).2.2 : Int) ≤ cnt x.2 + k.many) (x : List ByteArray × σ), (kidsW r lo hi ks x).1 = true →
    ((kidsW r lo hi ks x).2.1.length : Int) ≤ x.1.length + L * manyL ks ∧ (cnt (kidsW r lo hi ks x).2.2 : Int) ≤ cnt x.2 + manyL ks
  | [], _, _, _, x, _ => by simp [kidsW, manyL]
  | k :: ks, hk, hL, hr, x, h => by
    have hk1 := hk k (List.mem_cons_self ..)
    have hk2 := fun q hq => hk q (List.mem_cons_of_mem k hq)
    have hr2 := fun q hq => hr q (List.mem_cons_of_mem k hq)
    have hpos := manyL_pos hk2
    have hp1 : 0 ≤ L * manyL ks := Int.mul_nonneg (by omega) hpos
    have hp2 : 0 ≤ L * k.many := Int.mul_nonneg (by omega) (by omega)
    rw [manyL_cons, Int.mul_add]
    unfold kidsW at h ⊢
    split at h
    · rename_i h1
      rw [if_pos h1]
      split at h
      · rename_i h2
        rw [if_pos h2]
        have h3 := hr k (List.mem_cons_self ..) x h2
        split at h
        · rename_i h4
          rw [if_pos h4]
          dsimp only
          omega
        · rename_i h4
          rw [if_neg h4]
          have := kidsW_len (lo := lo) (hi := hi) ks hk2 hL hr2 _ h
          omega
      · cases h
    · rename_i h1
      rw [if_neg h1]
      split at h
      · rename_i h4
        rw [if_pos h4]
        dsimp only
        omega
      · rename_i h4
        rw [if_neg h4]
        have := kidsW_len (lo := lo) (hi := hi) ks hk2 hL hr2 _ h
        omega
theorem walk_len (hs : ∀ s p, (step s p 0).1 = true → cnt (step s p 0).2 ≤ cnt s + 1) (objs : List Ob) (lo hi : ByteArray) : ∀ (f : Nat) (level : Int) (k : Link) (x : List ByteArray × σ), LOk level k → (walkS step objs lo hi f level k x).1 = true →
    ((walkS step objs lo hi f level k x).2.1.length : Int) ≤ x.1.length + needA level k ∧ (cnt (walkS step objs lo hi f level k x).2.2 : Int) ≤ cnt x.2 + needO level k
  | 0, level, k, x, h, _ => by
    have := need_bad h
    simp only [walkS]; omega
  | f + 1, level, k, x, h, hc => by
    change (walkN step objs lo hi (walkS step objs lo hi f) level k x).1 = true at hc
    show ((walkN step objs lo hi (walkS step objs lo hi f) level k x).2.1.length : Int) ≤ _ ∧ (cnt (walkN step objs lo hi (walkS step objs lo hi f) level k x).2.2 : Int) ≤ _
    unfold walkN at hc ⊢
    cases hn : pnodeOf objs k level with
    | bad e => rw [hn] at hc; cases hc
    | leaf ps =>
      rw [hn] at hc
      dsimp only at hc
      obtain ⟨b, _, hb⟩ := pnode_leaf hn
      have h1 := need_leaf hb h
      have h2 := leafW_len hs lo hi ps _ hc
      simp only [List.length_append, List.length_cons, List.length_nil]
      omega
    | branch L kids =>
      rw [hn] at hc
      dsimp only at hc
      obtain ⟨b, _, hb⟩ := pnode_branch hn
      have h1 := need_branch hb h
      have hko := kid_ok hb
      obtain ⟨_, _, _, _, h2, _, _, _, _, _, h5⟩ := branch_facts hb
      have h3 := kidsW_len (r := walkS step objs lo hi f (L - 1)) (cnt := cnt) (lo := lo) (hi := hi) (L := L) kids (fun q hq => ⟨(h5 q hq).1, (h5 q hq).2.1⟩) h2 (fun q hq y hy => by
        have := walk_len hs objs lo hi f (L - 1) q y (hko q hq).1 hy
        rwa [(hko q hq).2.1, (hko q hq).2.2] at this) (x.1 ++ [k.id], x.2) hc
      simp only [List.length_append, List.length_cons, List.length_nil] at h3 ⊢
      omega
end
end Prolly
end Go.Proofs.YtpoljpjcmigobaaDoor
/- The reference's list: what has been asked, what came, the first error. -/
namespace Go.Proofs.YtpoljpjcmigobaaDoor
set_option linter.unusedVariables false
set_option linter.unusedSimpArgs false
open Go.RowKit K Wire
namespace Prolly
open Go.Proofs.YtpoljpjcmigobaaDoor.Obj Go.Proofs.YtpoljpjcmigobaaDoor.Blob

theorem rowOf_trans {w w1 : World} {v v1 v2 : Value} (h : RowOf w v v1) (k : RowOf w1 v1 v2) (hs : w.heap.size ≤ w1.heap.size) : RowOf w v v2 := fun i hi => by
  rcases k i hi with h1 | h1
  · exact h i h1
  · exact .inr (by omega)
theorem cell_of_has {w : World} {b : Nat} {cs : List Value} {T : TypeId} (h : Has w b cs T) {base e size n g : Nat} {v : Value} {xs : List Value} (ho : w.ownsRow base e size v n xs) (hg : v.ownBlock = some g) (hT : T ≠ e) : g ≠ b := has_ne h (own_row ho hg) hT
structure LkIs (B0 bl : Nat) (A : Option Addr) (c : Nat) (objs : List Ob) (va vo : Value) (x : LS) (w : World) : Prop where
  box : Has w bl [.slice A objs.length c, va, vo, .int .i64 x.bad] 98
  oa : w.ownsRow B0 9 1 va x.asked.length (x.asked.map .string)
  oo : w.ownsRow B0 48 2 vo x.out.length (x.out.flatMap kc)
  row : Cells w A (objs.flatMap oc)
  low : objs.flatMap oc ≠ [] → ∀ ad, A = some ad → ad.block < B0
  le : B0 ≤ bl
/-- what it turns -/
def LkS (bl : Nat) (va vo : Value) (k : Nat) : Prop := k = bl ∨ va.ownBlock = some k ∨ vo.ownBlock = some k
theorem LkS.trans {bl : Nat} {va vo va1 vo1 : Value} {w w1 w2 : World} (h : Mod (LkS bl va vo) w w1) (k : Mod (LkS bl va1 vo1) w1 w2) (hb : bl < w.heap.size) (ha : RowOf w va va1) (ho : RowOf w vo vo1) : Mod (LkS bl va vo) w w2 :=
  Mod.trans h k (fun i hi hs => by
    rcases hs with hs | hs | hs
    · exact .inl hs
    · rcases ha i hs with h3 | h3
      · exact .inr (.inl h3)
      · omega
    · rcases ho i hs with h3 | h3
      · exact .inr (.inr h3)
      · omega)
theorem LkIs.keep {B0 bl : Nat} {A : Option Addr} {c : Nat} {objs : List Ob} {va vo : Value} {x : LS} {w w' : World} {S : Nat → Prop} (h : LkIs B0 bl A c objs va vo x w) (m : Mod S w w')
    (h0 : ∀ k, k < B0 → ¬ S k) (h1 : ¬ S bl) (h2 : ∀ k, va.ownBlock = some k → ¬ S k) (h3 : ∀ k, vo.ownBlock = some k → ¬ S k) : LkIs B0 bl A c objs va vo x w' :=
  ⟨h.box.keep m h1, own_keep h.oa m (fun k _ hk => h2 k hk), own_keep h.oo m (fun k _ hk => h3 k hk), h.row.keep2 m (fun hne ad ha => h0 _ (h.low hne ad ha)), h.low, h.le⟩
theorem LkIs.keep0 {B0 bl : Nat} {A : Option Addr} {c : Nat} {objs : List Ob} {va vo : Value} {x : LS} {w w' : World} (h : LkIs B0 bl A c objs va vo x w) (m : Mod (fun _ => False) w w') : LkIs B0 bl A c objs va vo x w' :=
  h.keep m (fun _ _ h => h) (fun h => h) (fun _ _ h => h) (fun _ _ h => h)
theorem LkIs.apart {B0 bl : Nat} {A : Option Addr} {c : Nat} {objs : List Ob} {va vo : Value} {x : LS} {w : World} (h : LkIs B0 bl A c objs va vo x w) : (va.ownBlock ≠ some bl) ∧ (vo.ownBlock ≠ some bl) ∧ ∀ g, va.ownBlock = some g → vo.ownBlock ≠ some g :=
  ⟨fun e => absurd rfl (cell_of_has h.box h.oa e (by decide)), fun e => absurd rfl (cell_of_has h.box h.oo e (by decide)), fun g e e2 => by
    obtain ⟨cur, fr, h1⟩ := own_row h.oa e
    obtain ⟨cur', fr', h2⟩ := own_row h.oo e2
    rw [h1] at h2
    injection h2 with h2
    injection h2 with _ h2
    exact absurd h2 (by decide)⟩
/-- an id is noted -/
theorem LkIs.putA {B0 bl : Nat} {A : Option Addr} {c : Nat} {objs : List Ob} {va vo v1 : Value} {x : LS} {w w1 : World} (h : LkIs B0 bl A c objs va vo x w) (id : ByteArray) (m : Mod (fun k => va.ownBlock = some k) w w1) (ho : w1.ownsRow B0 9 1 v1 (x.asked.length + 1) (x.asked.map .string ++ [.string id])) :
    LkIs B0 bl A c objs v1 vo (x.ask id) (w1.setCell ⟨bl, 1, none⟩ v1) ∧ Mod (LkS bl va vo) w (w1.setCell ⟨bl, 1, none⟩ v1) := by
  have hap := h.apart
  have hb := h.box.keep m hap.1
  have hoo := own_keep h.oo m (fun k _ hk e => hap.2.2 k e hk)
  have hms := (Mod.refl (fun k => k = bl) w1).set1 rfl 1 v1
  refine ⟨⟨hb.set 1 v1, own_other (own_len (by simp [LS.ask]) (by simp [LS.ask]) ho) hb (by decide) hms, own_other hoo hb (by decide) hms, ?_, h.low, h.le⟩, ?_⟩
  · refine (h.row.keep2 m (fun hne ad ha e => ?_)).keep2 hms (fun hne ad ha e => ?_)
    · have h1 := h.low hne ad ha
      have h2 := (h.oa.lt _ e).1
      omega
    · have h1 := h.low hne ad ha
      have := h.le
      omega
  · exact Mod.trans (m.mono fun k _ hk => .inr (.inl hk)) (hms.mono fun k _ hk => (.inl hk : LkS bl va vo k)) (fun _ _ h => h)
/-- a pair is noted -/
theorem LkIs.putO {B0 bl : Nat} {A : Option Addr} {c : Nat} {objs : List Ob} {va vo v1 : Value} {x : LS} {w w1 : World} (h : LkIs B0 bl A c objs va vo x w) (p : Pair) (m : Mod (fun k => vo.ownBlock = some k) w w1) (ho : w1.ownsRow B0 48 2 v1 (x.out.length + 1) (x.out.flatMap kc ++ kc p)) :
    LkIs B0 bl A c objs va v1 { x with out := x.out ++ [p] } (w1.setCell ⟨bl, 2, none⟩ v1) ∧ Mod (LkS bl va vo) w (w1.setCell ⟨bl, 2, none⟩ v1) := by
  have hap := h.apart
  have hb := h.box.keep m hap.2.1
  have hoa := own_keep h.oa m (fun k _ hk e => hap.2.2 k hk e)
  have hms := (Mod.refl (fun k => k = bl) w1).set1 rfl 2 v1
  refine ⟨⟨hb.set 2 v1, own_other hoa hb (by decide) hms, own_other (own_len (by simp) (by simp) ho) hb (by decide) hms, ?_, h.low, h.le⟩, ?_⟩
  · refine (h.row.keep2 m (fun hne ad ha e => ?_)).keep2 hms (fun hne ad ha e => ?_)
    · have h1 := h.low hne ad ha
      have h2 := (h.oo.lt _ e).1
      omega
    · have h1 := h.low hne ad ha
      have := h.le
      omega
  · exact Mod.trans (m.mono fun k _ hk => .inr (.inr hk)) (hms.mono fun k _ hk => (.inl hk : LkS bl va vo k)) (fun _ _ h => h)
/-- an error is noted -/
theorem LkIs.setBad {B0 bl : Nat} {A : Option Addr} {c : Nat} {objs : List Ob} {va vo : Value} {x : LS} {w : World} (h : LkIs B0 bl A c objs va vo x w) (e : Int) :
    LkIs B0 bl A c objs va vo { x with bad := e } (w.setCell ⟨bl, 3, none⟩ (.int .i64 e)) ∧ Mod (LkS bl va vo) w (w.setCell ⟨bl, 3, none⟩ (.int .i64 e)) := by
  have hms := (Mod.refl (fun k => k = bl) w).set1 rfl 3 (.int .i64 e)
  refine ⟨⟨h.box.set 3 _, own_other h.oa h.box (by decide) hms, own_other h.oo h.box (by decide) hms, ?_, h.low, h.le⟩, hms.mono fun k _ hk => .inl hk⟩
  refine h.row.keep2 hms (fun hne ad ha e => ?_)
  have h1 := h.low hne ad ha
  have := h.le
  omega
def GoPost (B0 bl : Nat) (A : Option Addr) (c : Nat) (objs : List Ob) (va vo : Value) (y : LS) (w : World) (e : Ending) (w' : World) : Prop :=
  e = .returned (.tuple #[]) ∧ ∃ va' vo', LkIs B0 bl A c objs va' vo' y w' ∧ Mod (LkS bl va vo) w w' ∧ RowOf w va va' ∧ RowOf w vo vo'
end Prolly
end Go.Proofs.YtpoljpjcmigobaaDoor
