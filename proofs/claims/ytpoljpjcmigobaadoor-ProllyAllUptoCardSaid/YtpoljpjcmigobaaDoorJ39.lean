/- Joined texts: ProAp, Kw, ProAm. -/
import Derived.Test.YtpoljpjcmigobaaDoorJ36
import Derived.Test.YtpoljpjcmigobaaDoorJ35
import Derived.OrdersIn
import Derived.Test.YtpoljpjcmigobaaDoorJ37
/- Plain words for ProllyAll: a walk that may be left early. -/
namespace Go.Proofs.YtpoljpjcmigobaaDoor
set_option linter.unusedVariables false
set_option linter.unusedSimpArgs false
open Go.RowKit K Wire
namespace Prolly
open Go.Proofs.YtpoljpjcmigobaaDoor.Obj Go.Proofs.YtpoljpjcmigobaaDoor.Blob

/-- one state of the reference's list is ahead of another -/
structure LE (x y : LS) : Prop where
  out : x.out <+: y.out
  asked : x.asked <+: y.asked
  bad : x.bad ≠ 0 → y.out = x.out ∧ y.bad ≠ 0
theorem LE.refl (x : LS) : LE x x := ⟨List.prefix_refl _, List.prefix_refl _, fun h => ⟨rfl, h⟩⟩
theorem LE.trans {x y z : LS} (h : LE x y) (k : LE y z) : LE x z := ⟨h.out.trans k.out, h.asked.trans k.asked, fun hb => by
  obtain ⟨h1, h2⟩ := h.bad hb
  obtain ⟨k1, k2⟩ := k.bad h2
  exact ⟨k1.trans h1, k2⟩⟩
theorem ask_le (x : LS) (id : ByteArray) : LE x (x.ask id) := ⟨List.prefix_refl _, List.prefix_append _ _, fun h => ⟨rfl, h⟩⟩
theorem putP_le (x : LS) (p : Pair) : LE x (putP x p) := by
  by_cases hb : x.bad ≠ 0
  · rw [putP_bad hb]; exact LE.refl x
  · unfold putP
    rw [if_neg hb]
    split
    · exact ⟨List.prefix_refl _, List.prefix_refl _, fun h => absurd h hb⟩
    · exact ⟨List.prefix_append _ _, List.prefix_refl _, fun h => absurd h hb⟩
theorem leafS_le (lo hi : ByteArray) : ∀ (ps : List Pair) (x : LS), LE x (leafS lo hi ps x)
  | [], x => LE.refl x
  | p :: ps, x => by
    have e : leafS lo hi (p :: ps) x = leafS lo hi ps (if isIn lo hi p.key then putP x p else x) := rfl
    rw [e]
    refine LE.trans ?_ (leafS_le lo hi ps _)
    split
    · exact putP_le x p
    · exact LE.refl x
theorem kidS_le {r : Link → LS → LS} (hr : ∀ k x, LE x (r k x)) (lo : ByteArray) (k : Link) (x : LS) : LE x (kidS r lo k x) := by
  unfold kidS
  split
  · exact hr k x
  · exact LE.refl x
theorem kidsS_le {r : Link → LS → LS} (hr : ∀ k x, LE x (r k x)) (lo hi : ByteArray) : ∀ (ks : List Link) (x : LS), LE x (kidsS r lo hi ks x)
  | [], x => LE.refl x
  | k :: ks, x => by
    unfold kidsS
    split
    · exact kidS_le hr lo k x
    · exact (kidS_le hr lo k x).trans (kidsS_le hr lo hi ks _)
theorem goes_le (objs : List Ob) (lo hi : ByteArray) : ∀ (f : Nat) (level : Int) (k : Link) (x : LS), LE x (goesS objs lo hi f level k x)
  | 0, _, _, x => LE.refl x
  | f + 1, level, k, x => by
    show LE x (goesN objs lo hi (goesS objs lo hi f) level k x)
    unfold goesN
    cases hn : pnodeOf objs k level with
    | bad e =>
      have he : e ≠ 0 := by have := pnode_bad hn; omega
      exact ⟨List.prefix_refl _, List.prefix_append _ _, fun _ => ⟨rfl, he⟩⟩
    | leaf ps => exact (ask_le x k.id).trans (leafS_le lo hi ps _)
    | branch L kids => exact (ask_le x k.id).trans (kidsS_le (fun k x => goes_le objs lo hi f (L - 1) k x) lo hi kids _)
section
variable {σ : Type} {step : σ → Pair → Int → Bool × σ} {Rel : LS → σ → Prop} {Stop : σ → Prop} {ok : LS → Prop}
/-- what a step does, of one who may leave early -/
structure Early (step : σ → Pair → Int → Bool × σ) (Rel : LS → σ → Prop) (Stop : σ → Prop) (ok : LS → Prop) : Prop where
  le : ∀ x y, LE x y → ok y → ok x
  bad0 : ∀ x s, Rel x s → x.bad = 0
  ask : ∀ x s id, Rel x s → Rel (x.ask id) s
  pair : ∀ x s p, Rel x s → 1 ≤ p.key.size → ok (putP x p) → ((putP x p).bad = 0 ∧ (step s p 0).1 = true ∧ Rel (putP x p) (step s p 0).2) ∨ ((step s p 0).1 = false ∧ Stop (step s p 0).2)
  err : ∀ x s e, Rel x s → e ≠ 0 → ok { x with bad := e } → Stop (step s pair0 e).2
def OutE (Rel : LS → σ → Prop) (Stop : σ → Prop) (x : LS) (c : Bool) (a : List ByteArray) (s : σ) : Prop := (x.bad = 0 ∧ c = true ∧ a = x.asked ∧ Rel x s) ∨ (c = false ∧ a <+: x.asked ∧ Stop s)
theorem leaf_early (H : Early step Rel Stop ok) (lo hi : ByteArray) : ∀ (ps : List Pair) (x : LS) (s : σ), Rel x s → (∀ p ∈ ps, 1 ≤ p.key.size) → ok (leafS lo hi ps x) →
    ((leafS lo hi ps x).bad = 0 ∧ (leafW step lo hi ps s).1 = true ∧ Rel (leafS lo hi ps x) (leafW step lo hi ps s).2) ∨ ((leafW step lo hi ps s).1 = false ∧ Stop (leafW step lo hi ps s).2)
  | [], x, s, h, _, _ => .inl ⟨H.bad0 x s h, rfl, h⟩
  | p :: ps, x, s, h, hp, ho => by
    have hl : leafS lo hi (p :: ps) x = leafS lo hi ps (if isIn lo hi p.key then putP x p else x) := rfl
    rw [hl] at ho ⊢
    unfold leafW
    by_cases hi' : isIn lo hi p.key = true
    · rw [if_pos hi'] at ho ⊢
      rw [if_pos hi']
      rcases H.pair x s p h (hp p (List.mem_cons_self ..)) (H.le _ _ (leafS_le lo hi ps _) ho) with ⟨h1, h2, h3⟩ | ⟨h1, h2⟩
      · rw [if_pos h2]
        exact leaf_early H lo hi ps _ _ h3 (fun q hq => hp q (List.mem_cons_of_mem _ hq)) ho
      · rw [if_neg (by rw [h1]; decide)]
        exact .inr ⟨rfl, h2⟩
    · rw [if_neg hi'] at ho ⊢
      rw [if_neg hi']
      exact leaf_early H lo hi ps x s h (fun q hq => hp q (List.mem_cons_of_mem _ hq)) ho
theorem kids_early (H : Early step Rel Stop ok) (lo hi : ByteArray) (r1 : Link → LS → LS) (r2 : Link → List ByteArray × σ → Bool × List ByteArray × σ) (hle : ∀ k x, LE x (r1 k x))
    (hr : ∀ k x s, Rel x s → ok (r1 k x) → OutE Rel Stop (r1 k x) (r2 k (x.asked, s)).1 (r2 k (x.asked, s)).2.1 (r2 k (x.asked, s)).2.2) : ∀ (ks : List Link) (x : LS) (s : σ), Rel x s → ok (kidsS r1 lo hi ks x) →
    OutE Rel Stop (kidsS r1 lo hi ks x) (kidsW r2 lo hi ks (x.asked, s)).1 (kidsW r2 lo hi ks (x.asked, s)).2.1 (kidsW r2 lo hi ks (x.asked, s)).2.2
  | [], x, s, h, _ => .inl ⟨H.bad0 x s h, rfl, rfl, h⟩
  | k :: ks, x, s, h, ho => by
    have hb := H.bad0 x s h
    have hfin : LE (kidS r1 lo k x) (kidsS r1 lo hi (k :: ks) x) := by
      unfold kidsS
      split
      · exact LE.refl _
      · exact kidsS_le hle lo hi ks _
    have ho1 := H.le _ _ hfin ho
    unfold kidsW
    by_cases hlo : ltS k.last lo = false
    · have e1 : kidS r1 lo k x = r1 k x := by unfold kidS; rw [if_pos ⟨hb, hlo⟩]
      rw [if_pos hlo]
      rw [e1] at ho1 hfin
      have h1 := hr k x s h ho1
      unfold kidsS at ho hfin ⊢
      rw [e1] at ho hfin ⊢
      generalize r1 k x = x1 at *
      generalize r2 k (x.asked, s) = y at *
      obtain ⟨c, a, s1⟩ := y
      dsimp only at *
      rcases h1 with ⟨k1, rfl, rfl, k2⟩ | ⟨rfl, k1, k2⟩
      · rw [if_pos rfl]
        by_cases he : ends hi k.last = true
        · rw [if_pos he, if_pos he]
          exact .inl ⟨k1, rfl, rfl, k2⟩
        · rw [if_neg he] at ho ⊢
          rw [if_neg he]
          exact kids_early H lo hi r1 r2 hle hr ks x1 s1 k2 ho
      · simp only [Bool.false_eq_true, if_false]
        exact .inr ⟨rfl, k1.trans hfin.asked, k2⟩
    · have e1 : kidS r1 lo k x = x := by unfold kidS; rw [if_neg (fun h2 => hlo h2.2)]
      rw [if_neg hlo]
      unfold kidsS at ho ⊢
      rw [e1] at ho ⊢
      by_cases he : ends hi k.last = true
      · rw [if_pos he, if_pos he]
        exact .inl ⟨hb, rfl, rfl, h⟩
      · rw [if_neg he] at ho ⊢
        rw [if_neg he]
        exact kids_early H lo hi r1 r2 hle hr ks x s h ho
theorem walk_early (H : Early step Rel Stop ok) (objs : List Ob) (lo hi : ByteArray) : ∀ (f : Nat) (level : Int) (k : Link) (x : LS) (s : σ), Rel x s → ok (goesS objs lo hi f level k x) →
    OutE Rel Stop (goesS objs lo hi f level k x) (walkS step objs lo hi f level k (x.asked, s)).1 (walkS step objs lo hi f level k (x.asked, s)).2.1 (walkS step objs lo hi f level k (x.asked, s)).2.2
  | 0, level, k, x, s, h, _ => .inl ⟨H.bad0 x s h, rfl, rfl, h⟩
  | f + 1, level, k, x, s, h, ho => by
    change ok (goesN objs lo hi (goesS objs lo hi f) level k x) at ho
    show OutE Rel Stop (goesN objs lo hi (goesS objs lo hi f) level k x) (walkN step objs lo hi (walkS step objs lo hi f) level k (x.asked, s)).1 (walkN step objs lo hi (walkS step objs lo hi f) level k (x.asked, s)).2.1 (walkN step objs lo hi (walkS step objs lo hi f) level k (x.asked, s)).2.2
    unfold goesN at ho ⊢
    unfold walkN
    cases hn : pnodeOf objs k level with
    | bad e =>
      have he : e ≠ 0 := by have := pnode_bad hn; omega
      rw [hn] at ho
      exact .inr ⟨rfl, List.prefix_refl _, H.err (x.ask k.id) s e (H.ask x s k.id h) he ho⟩
    | leaf ps =>
      rw [hn] at ho
      obtain ⟨b, _, hb⟩ := pnode_leaf hn
      obtain ⟨_, _, _, _, _, hk⟩ := leaf_facts hb
      have hl : (leafS lo hi ps (x.ask k.id)).asked = x.asked ++ [k.id] := by
        have : ∀ (ps : List Pair) (x : LS), (leafS lo hi ps x).asked = x.asked := by
          intro ps
          induction ps with
          | nil => intro x; rfl
          | cons p ps ih =>
            intro x
            have e : leafS lo hi (p :: ps) x = leafS lo hi ps (if isIn lo hi p.key then putP x p else x) := rfl
            rw [e, ih]
            split
            · unfold putP; split
              · rfl
              · split <;> rfl
            · rfl
        rw [this]; rfl
      dsimp only
      rcases leaf_early H lo hi ps (x.ask k.id) s (H.ask x s k.id h) (fun p hp => (hk p hp).1) ho with ⟨h1, h2, h3⟩ | ⟨h1, h2⟩
      · exact .inl ⟨h1, h2, hl.symm, h3⟩
      · exact .inr ⟨h1, by rw [hl]; exact List.prefix_refl _, h2⟩
    | branch L kids =>
      rw [hn] at ho
      exact kids_early H lo hi _ _ (fun k x => goes_le objs lo hi f (L - 1) k x) (fun k' x' s' h' ho' => walk_early H objs lo hi f (L - 1) k' x' s' h' ho') kids (x.ask k.id) s (H.ask x s k.id h) ho
end
/-- the law's first loop -/
def stepA (s : List Pair × Int) (p : Pair) (f : Int) : Option Code × (List Pair × Int) :=
  if f ≠ 0 ∨ s.2 ≠ 0 then (if ¬ (p.key = ⟨#[]⟩ ∧ p.val = ⟨#[]⟩) ∨ s.2 ≠ 0 then (some .ret, s) else (none, (s.1, f))) else (none, (s.1 ++ [p], s.2))
theorem put_eq {x : LS} (hb : x.bad = 0) (p : Pair) : putP x p = if x.out ≠ [] ∧ ltS (lastO x.out) p.key = false then { x with bad := 122 } else { x with out := x.out ++ [p] } := by unfold putP; rw [if_neg (by simpa using hb)]
theorem lt_of_not {x : LS} {p : Pair} (hk : 1 ≤ p.key.size) (hc : ¬ (x.out ≠ [] ∧ ltS (lastO x.out) p.key = false)) : ltS (lastO x.out) p.key = true := by
  by_cases hn : x.out = []
  · rw [hn]; exact ltS_empty p.key hk
  · cases h5 : ltS (lastO x.out) p.key with
    | true => rfl
    | false => exact absurd ⟨hn, h5⟩ hc
theorem all_agrees : Agrees (stepB (toldS stepA))
    (fun x s => x.bad = 0 ∧ s.2.1.1 = x.out ∧ s.2.1.2 = 0 ∧ s.1 = lastO x.out ∧ s.2.2 = none) (fun x s => s.2.2 = none ∧ s.2.1.2 = x.bad ∧ s.2.1.1 = x.out) where
  ok := fun x s h => h.1
  ask := fun x s id h => h
  pair := by
    rintro x ⟨last, ⟨out, e9⟩, pe⟩ p ⟨hb, ho, h9, hl, hp⟩ hk
    dsimp only at ho h9 hl hp
    subst ho h9 hl hp
    rw [put_eq hb]
    unfold stepB
    dsimp only
    by_cases hc : x.out ≠ [] ∧ ltS (lastO x.out) p.key = false
    · rw [if_pos hc, if_neg (show ¬ ({ x with bad := 122 } : LS).bad = 0 by simp), if_pos (⟨rfl, hc.2⟩ : (0 : Int) = 0 ∧ ltS (lastO x.out) p.key = false)]
      simp [toldS, stepA, pair0]
    · have hlt := lt_of_not hk hc
      rw [if_neg hc, if_pos (show ({ x with out := x.out ++ [p] } : LS).bad = 0 from hb), if_neg (show ¬ ((0 : Int) = 0 ∧ ltS (lastO x.out) p.key = false) by rw [hlt]; simp)]
      simp [toldS, stepA, hb, lastO]
  err := by
    rintro x ⟨last, ⟨out, e9⟩, pe⟩ e ⟨hb, ho, h9, hl, hp⟩ he
    dsimp only at ho h9 hl hp
    subst ho h9 hl hp
    unfold stepB
    rw [if_neg (fun h => he h.1)]
    simp [toldS, stepA, he, pair0]
theorem all_list (objs : List Ob) (lo hi root : ByteArray) {a' : List ByteArray} {out : List Pair} {e : Int} {pe : Option Code}
    (h : iterS (toldS stepA) objs lo hi root [] (([], 0), none) = (a', (out, e), pe)) :
    a' = (listL objs lo hi root).2.1 ∧ pe = none ∧ e = (listL objs lo hi root).2.2 ∧ out = (goesR objs lo hi root).out := by
  obtain ⟨h1, h2⟩ := walk_agrees all_agrees objs lo hi 30 (-1) (link0 root) ⟨[], [], 0⟩ (⟨#[]⟩, ([], 0), none) ⟨rfl, rfl, rfl, rfl, rfl⟩
  unfold iterS at h
  have hr : goesS objs lo hi 30 (-1) (link0 root) ⟨[], [], 0⟩ = goesR objs lo hi root := rfl
  rw [hr] at h1 h2
  simp only [Prod.mk.injEq] at h
  obtain ⟨rfl, h3⟩ := h
  refine ⟨h2, ?_⟩
  unfold Out at h1
  unfold listL
  by_cases hb : (goesR objs lo hi root).bad = 0
  · rw [if_pos hb] at h1
    obtain ⟨_, _, k2, k3, _, k4⟩ := h1
    rw [h3] at k2 k3 k4
    exact ⟨k4, k3.trans hb.symm, k2⟩
  · rw [if_neg hb] at h1
    obtain ⟨_, k1, k2, k3⟩ := h1
    rw [h3] at k1 k2 k3
    exact ⟨k1, k2, k3⟩
/-- the law's second loop -/
def stepN (got : List Pair) (most : Int) (n : Nat) (p : Pair) (_ : Int) : Option Code × Nat :=
  if n < got.length ∧ ¬ ((got.getD n pair0).key = p.key ∧ (got.getD n pair0).val = p.val) then (some .ret, n) else if most ≤ (n : Int) + 1 then (some (.exit 2), n + 1) else (none, n + 1)
theorem stepN_go {got : List Pair} {most : Int} {n : Nat} {p : Pair} {f : Int} (h : ¬ (n < got.length ∧ ¬ ((got.getD n pair0).key = p.key ∧ (got.getD n pair0).val = p.val))) :
    ((stepN got most n p f).1 = none ∨ (stepN got most n p f).1 = some (.exit 2)) ∧ (stepN got most n p f).2 = n + 1 := by
  unfold stepN
  rw [if_neg h]
  split
  · exact ⟨.inr rfl, rfl⟩
  · exact ⟨.inl rfl, rfl⟩
theorem early_agrees (got : List Pair) (most : Int) : Early (stepB (toldS (stepN got most)))
    (fun x s => x.bad = 0 ∧ s.2.1 = x.out.length ∧ s.1 = lastO x.out ∧ s.2.2 = none) (fun s => s.2.2 = none ∨ s.2.2 = some (.exit 2)) (fun x => x.out <+: got ∧ (x.bad ≠ 0 → x.out = got)) where
  le := fun x y h ho => ⟨h.out.trans ho.1, fun hb => by
    obtain ⟨h1, h2⟩ := h.bad hb
    rw [← h1]; exact ho.2 h2⟩
  bad0 := fun x s h => h.1
  ask := fun x s id h => h
  pair := by
    rintro x ⟨last, n, pe⟩ p ⟨hb, hn, hl, hp⟩ hk ho
    dsimp only at hn hl hp
    subst hn hl hp
    rw [put_eq hb] at ho ⊢
    unfold stepB
    dsimp only
    by_cases hc : x.out ≠ [] ∧ ltS (lastO x.out) p.key = false
    · rw [if_pos hc] at ho
      rw [if_pos (⟨rfl, hc.2⟩ : (0 : Int) = 0 ∧ ltS (lastO x.out) p.key = false)]
      have e1 := ho.2 (show (122 : Int) ≠ 0 by decide)
      dsimp only at e1
      have := (stepN_go (got := got) (most := most) (n := x.out.length) (p := pair0) (f := 122) (fun h => by rw [e1] at h; omega)).1
      exact .inr ⟨rfl, this⟩
    · have hlt := lt_of_not hk hc
      rw [if_neg hc] at ho ⊢
      rw [if_neg (show ¬ ((0 : Int) = 0 ∧ ltS (lastO x.out) p.key = false) by rw [hlt]; simp)]
      obtain ⟨t, ht⟩ := ho.1
      dsimp only at ht
      obtain ⟨h1, h2⟩ := stepN_go (got := got) (most := most) (n := x.out.length) (p := p) (f := 0) (fun h => h.2 (by rw [← ht]; simp))
      unfold toldS
      dsimp only
      rw [h2]
      rcases h1 with h1 | h1
      · rw [h1]
        exact .inl ⟨hb, rfl, hb, by simp, by simp [lastO], rfl⟩
      · rw [h1]
        exact .inr ⟨rfl, .inr rfl⟩
  err := by
    rintro x ⟨last, n, pe⟩ e ⟨hb, hn, hl, hp⟩ he ho
    dsimp only at hn hl hp
    subst hn hl hp
    unfold stepB
    rw [if_neg (fun h => he h.1)]
    have e1 := ho.2 he
    dsimp only at e1
    exact (stepN_go (got := got) (most := most) (n := x.out.length) (p := pair0) (f := e) (fun h => by rw [e1] at h; omega)).1
theorem early_list (objs : List Ob) (lo hi root : ByteArray) (most : Int) {a' : List ByteArray} {n : Nat} {pe : Option Code}
    (h : iterS (toldS (stepN (goesR objs lo hi root).out most)) objs lo hi root [] (0, none) = (a', n, pe)) :
    a' <+: (listL objs lo hi root).2.1 ∧ (pe = none ∨ pe = some (.exit 2)) := by
  have h1 := walk_early (early_agrees (goesR objs lo hi root).out most) objs lo hi 30 (-1) (link0 root) ⟨[], [], 0⟩ (⟨#[]⟩, 0, none) ⟨rfl, rfl, rfl, rfl⟩ ⟨List.prefix_refl _, fun _ => rfl⟩
  have hr : goesS objs lo hi 30 (-1) (link0 root) ⟨[], [], 0⟩ = goesR objs lo hi root := rfl
  rw [hr] at h1
  unfold iterS at h
  simp only [Prod.mk.injEq] at h
  obtain ⟨rfl, h3⟩ := h
  unfold listL
  rcases h1 with ⟨_, _, k1, _, _, _, k2⟩ | ⟨_, k1, k2⟩
  · rw [h3] at k2
    rw [k1]
    exact ⟨List.prefix_refl _, .inl k2⟩
  · rw [h3] at k2
    exact ⟨k1, k2⟩
end Prolly
end Go.Proofs.YtpoljpjcmigobaaDoor
/- A drawn region within a round: walked as anywhere. -/
namespace Go.Proofs.YtpoljpjcmigobaaDoor
set_option linter.unusedVariables false
set_option linter.unusedSimpArgs false
open Go Go.RowKit
namespace K

section
variable {P : Program} {ops : Array Oper} {Q : Exit → Act → World → Prop} {md : Region.Mode} {l n : Nat}
theorem oper_in {o : Oper} {a : Act} {w : World} {KK : Act → World → Prop} (hd : ∀ c, o.op ≠ .defer c) (h : o.wp P a w KK Q) : o.wpIn (Fence.wide.inRound l) n P a w KK Q := by
  refine ⟨fun _ _ => trivial, ?_⟩
  rw [Oper.semAt_eq _ _ _ hd]
  unfold Oper.wp at h
  generalize (execOp a.eval o).run P w = r at *
  cases r with
  | ok nx w' =>
    cases nx with
    | value v => exact h
    | skip => exact h
    | defer d => exact h
    | enter f args =>
      refine ⟨fun hx => (by cases hx), CallsIn.inRound l (callsIn_wide.2 (Calls.mono h ?_))⟩
      intro e w he
      cases e <;> exact he
    | row r args => exact ⟨fun hx => (by cases hx), fun c cs _ => let ⟨v, w', r, s⟩ := h c cs; ⟨v, w', r, stepsIn_wide.2 s⟩⟩
    | _ => exact h.elim
  | halt x w' => cases x <;> exact h
theorem wpAnyIn_of (hd : ∀ (i : Nat) (o : Oper), ops[i]? = some o → ∀ c : Call, o.op ≠ .defer c) (hQ : ¬ LetsOut Q) : ∀ (fuel : Nat) (listed : Array Bool) (a : Act) (w : World), wpAny P md ops Q fuel listed a w → wpAnyIn (Fence.wide.inRound l) n P md ops Q fuel listed a w
  | 0, _, _, _, h => h
  | fuel + 1, listed, a, w, h => ⟨h.1, fun i hi => by
    have h1 := h.2 i hi
    unfold wpOp at h1
    unfold wpOpIn
    split
    · rename_i ho
      rw [ho] at h1
      exact wpAnyIn_of hd hQ fuel _ a w h1
    · rename_i o ho
      rw [ho] at h1
      dsimp only at h1
      split
      · rename_i hw
        rw [if_pos hw] at h1
        rcases h1 with h1 | h1
        · exact oper_in (hd i o ho) (Oper.wp_mono (fun a w => wpAnyIn_of hd hQ fuel _ a w) h1)
        · exact absurd h1.2 hQ
      · rename_i hw
        rw [if_neg hw] at h1
        exact ⟨fun _ _ => trivial, wpAnyIn_of hd hQ fuel _ _ w h1⟩⟩
def noDeferB (ops : List Oper) : Bool := ops.all fun o => match o.op with | .defer _ => false | _ => true
theorem noDeferB_spec {ops : List Oper} (h : noDeferB ops = true) : ∀ (i : Nat) (o : Oper), ops.toArray[i]? = some o → ∀ c : Call, o.op ≠ .defer c := by
  intro i o ho c hc
  have h1 := List.all_eq_true.1 h o (List.mem_of_getElem? (by simpa using ho))
  rw [hc] at h1
  cases h1
end
theorem region_mT_in (S : Nat → Prop) {P : Program} {Q : Exit → Act → World → Prop} {id l n : Nat} {ops : List Oper} {a : Act} {w : World} (hm : P.follows .mixedOrders = true) (hd : noDeferB ops = true) (hQ : ¬ LetsOut Q)
    (h : wpAnyT (Mod S) P .any ops.toArray Q ops.length (List.replicate ops.length false).toArray a w.drew) : (Code.region id ops.toArray true).wpIn (Fence.wide.inRound l) n P Q a w := by
  refine wpIn_region_any hm ?_
  have h1 := wpAnyIn_of (l := l) (n := n) (noDeferB_spec hd) hQ _ _ _ _ (wpAny_of_T _ _ _ _ h)
  simpa using h1
/-- a region that does not panic, whatever is said of a panic -/
def NoPan (Q : Exit → Act → World → Prop) : Exit → Act → World → Prop
  | .panic _, _, _ => False
  | e, a, w => Q e a w
theorem NoPan.normal {Q : Exit → Act → World → Prop} {a : Act} {w : World} (h : Q .normal a w) : NoPan Q .normal a w := h
theorem region_noPan {P : Program} {id : Nat} {ops : Array Oper} {b : Bool} {Q : Exit → Act → World → Prop} {a : Act} {w : World} (h : (Code.region id ops b).wp P (NoPan Q) a w) : (Code.region id ops b).wp P Q a w :=
  Code.wp_mono (fun e a w h => by cases e <;> first | exact h | exact (h : False).elim) h
end K
end Go.Proofs.YtpoljpjcmigobaaDoor
/- What the loops of the law ProllyAll hold. -/
namespace Go.Proofs.YtpoljpjcmigobaaDoor
set_option linter.unusedVariables false
set_option linter.unusedSimpArgs false
open Go.RowKit K Wire
namespace Prolly
open Go.Proofs.YtpoljpjcmigobaaDoor.Obj Go.Proofs.YtpoljpjcmigobaaDoor.Blob

/-- the first loop: what has come, the error -/
def i1 (b8 b15 b16 : Nat) (s : List Pair × Int) (F : Nat → Prop) (W : World) : Prop :=
  ∃ vo, Has W b8 [.bool false] 4 ∧ Has W b15 [vo] 22 ∧ Has W b16 [.int .i64 s.2] 26 ∧ W.ownsRow 0 48 2 vo s.1.length (s.1.flatMap kc) ∧
    F = fun k => k = b8 ∨ k = b15 ∨ k = b16 ∨ vo.ownBlock = some k
theorem i1_keep {b8 b15 b16 : Nat} : ∀ s F w w' S, i1 b8 b15 b16 s F w → Mod S w w' → (∀ k, F k ∨ False → ¬ S k) → i1 b8 b15 b16 s F w' := by
  rintro s F w w' S ⟨vo, h1, h2, h3, h4, rfl⟩ m hs
  exact ⟨vo, h1.keep m (hs _ (.inl (.inl rfl))), h2.keep m (hs _ (.inl (.inr (.inl rfl)))), h3.keep m (hs _ (.inl (.inr (.inr (.inl rfl))))), own_keep h4 m (fun k _ hk => hs k (.inl (.inr (.inr (.inr hk))))), rfl⟩
theorem i1_lt {b8 b15 b16 : Nat} : ∀ s F w k, i1 b8 b15 b16 s F w → F k ∨ False → k < w.heap.size := by
  rintro s F w k ⟨vo, h1, h2, h3, h4, rfl⟩ ((rfl | rfl | rfl | hk) | hk)
  · exact h1.lt
  · exact h2.lt
  · exact h3.lt
  · exact (h4.lt k hk).2
  · exact hk.elim
/-- the second loop: how many have come -/
def i2 (b7 b8 b15 b19 : Nat) (most : Int) (got : List Pair) (n : Nat) (F : Nat → Prop) (W : World) : Prop :=
  ∃ vo, b19 ≠ b7 ∧ Has W b7 [.int .i64 most] 3 ∧ Has W b8 [.bool false] 4 ∧ Has W b15 [vo] 22 ∧ Has W b19 [.int .i64 n] 3 ∧ W.ownsRow 0 48 2 vo got.length (got.flatMap kc) ∧
    F = fun k => k = b7 ∨ k = b8 ∨ k = b15 ∨ k = b19 ∨ vo.ownBlock = some k
theorem i2_keep {b7 b8 b15 b19 : Nat} {most : Int} {got : List Pair} : ∀ s F w w' S, i2 b7 b8 b15 b19 most got s F w → Mod S w w' → (∀ k, F k ∨ False → ¬ S k) → i2 b7 b8 b15 b19 most got s F w' := by
  rintro s F w w' S ⟨vo, h0, h1, h2, h3, h4, h5, rfl⟩ m hs
  exact ⟨vo, h0, h1.keep m (hs _ (.inl (.inl rfl))), h2.keep m (hs _ (.inl (.inr (.inl rfl)))), h3.keep m (hs _ (.inl (.inr (.inr (.inl rfl))))), h4.keep m (hs _ (.inl (.inr (.inr (.inr (.inl rfl)))))), own_keep h5 m (fun k _ hk => hs k (.inl (.inr (.inr (.inr (.inr hk)))))), rfl⟩
theorem i2_lt {b7 b8 b15 b19 : Nat} {most : Int} {got : List Pair} : ∀ s F w k, i2 b7 b8 b15 b19 most got s F w → F k ∨ False → k < w.heap.size := by
  rintro s F w k ⟨vo, h0, h1, h2, h3, h4, h5, rfl⟩ ((rfl | rfl | rfl | rfl | hk) | hk)
  · exact h1.lt
  · exact h2.lt
  · exact h3.lt
  · exact h4.lt
  · exact (h5.lt k hk).2
  · exact hk.elim
theorem eq_of_toList_nil {k : ByteArray} (h : k.toList = []) : k = ⟨#[]⟩ := (Lib.bytes_beq_iff k ⟨#[]⟩).1 (by rw [h, Lib.toList_data]; rfl)
def cntA (s : List Pair × Int) : Nat := if s.2 = 0 then s.1.length else 2000000
theorem cntA_step (s : List Pair × Int) (p : Pair) (h : (stepA s p 0).1 = none) : cntA (stepA s p 0).2 ≤ cntA s + 1 := by
  unfold stepA at h ⊢
  unfold cntA
  by_cases hs : s.2 = 0
  · simp [hs]
  · simp [hs] at h
theorem askIs_nil {B b0 b1 b2 : Nat} {A : Option Addr} {c : Nat} {objs : List Ob} {v : Value} {a : List ByteArray} {w : World} (h : AskIs B b0 b1 b2 A c objs v a w) : AskIs B b0 b1 b2 A c objs (.slice none 0 0) [] (w.setCell ⟨b0, 0, none⟩ (.slice none 0 0)) := by
  have hm := (Mod.refl (fun g => g = b0) w).set1 rfl 0 (.slice none 0 0)
  have h10 := has_ne2 h.box1 h.at0 (by decide)
  have h20 := has_ne2 h.box2 h.at0 (by decide)
  exact ⟨h.box1.keep hm (fun e => h10 e.symm), h.box2.keep hm (fun e => h20 e.symm), h.at0.set 0 _, World.ownsRow_nil _ _ _ _, h.row.keep2 hm (fun hne ad ha e => by have := h.low hne ad ha; have := h.le; omega), h.low, h.le, h.many⟩
theorem askIs_keep {B b0 b1 b2 : Nat} {A : Option Addr} {c : Nat} {objs : List Ob} {v : Value} {a : List ByteArray} {w w' : World} {S : Nat → Prop} (h : AskIs B b0 b1 b2 A c objs v a w) (m : Mod S w w')
    (hs : ∀ k, (k = b0 ∨ v.ownBlock = some k) ∨ (askF B b0 b1 b2 A c objs).N k → ¬ S k) : AskIs B b0 b1 b2 A c objs v a w' :=
  ⟨h.box1.keep m (hs _ (.inr (.inl rfl))), h.box2.keep m (hs _ (.inr (.inr (.inl rfl)))), h.at0.keep m (hs _ (.inl (.inl rfl))), own_keep h.own m (fun k _ hk => hs k (.inl (.inr hk))),
    h.row.keep2 m (fun hne ad ha => hs _ (.inr (.inr (.inr ⟨hne, ad, ha, rfl⟩)))), h.low, h.le, h.many⟩
theorem row_blocks {w : World} {base e size n m c : Nat} {A : Option Addr} {xs : List Value} (h : w.ownsRow base e size (.slice A m c) n xs) : ∀ ad, A = some ad → base ≤ ad.block ∧ ad.block < w.heap.size := fun ad ha => h.lt ad.block (by rw [ha]; rfl)
set_option maxRecDepth 100000 in
theorem size_str (w : World) : (sizeOf 9).run Tryd.prog w = .ok 1 w := by kernel_rfl
set_option maxRecDepth 100000 in
theorem ids_to {w : World} {A : Option Addr} {c : Nat} {l : List ByteArray} (n : Nat) (hA : Cells w A (l.map .string)) (hadr : Adr A c) (h : n ≤ l.length) (hl : l.length ≤ c) :
    (∀ w', (Instr.slice 32 (.slice A l.length c) none (some (.int .i64 (n : Int))) none).run Tryd.prog w' = .ok (.slice A n c) w') ∧ Cells w A ((l.take n).map .string) := by
  refine ⟨fun w' => ?_, ?_⟩
  · rw [Go.run_slice_h (P := Tryd.prog) w' 32 A l.length c Tryd.underlying32 .i64 (n : Int) (by omega) (by omega)]
    rw [show Tryd.prog.elem 32 = 9 by kernel_rfl, size_str]
    simp only [Result.andThen, sliced, Int.toNat_natCast, Nat.sub_zero]
    rcases hadr with h0 | ⟨b, o, rfl⟩
    · rw [if_pos h0]
    · split
      · rfl
      · simp [Addr.add]
  · rcases hA with hA | ⟨b, o, rfl, hcell⟩
    · have : l = [] := by cases l with | nil => rfl | cons a l => cases hA
      subst this; exact .inl (by simp)
    · refine .inr ⟨b, o, rfl, fun j u hj => hcell j u ?_⟩
      rw [List.map_take, List.getElem?_take] at hj
      split at hj
      · exact hj
      · cases hj
theorem own_cells_at {w : World} {base e size n m c : Nat} {A : Option Addr} {xs : List Value} (h : w.ownsRow base e size (.slice A m c) n xs) : Cells w A xs := by
  obtain ⟨A', c', he, _, hc, _, _⟩ := own_cells h
  injection he with h1 _ _
  subst h1
  exact hc
theorem behind_exit {P : Program} {id : Nat} {Q : Exit → Act → World → Prop} {a : Act} {w : World} {pe : Option Code} (hpe : pe = none ∨ pe = some (.exit id)) (h : Exit.inBlock id Q .normal a w) : behindL P (Exit.inBlock id Q) a w pe := by
  rcases hpe with rfl | rfl
  · exact h
  · show (Code.exit id).wp P (Exit.inBlock id Q) a w
    refine wp_exit ?_
    simpa [Exit.inBlock] using h
end Prolly
end Go.Proofs.YtpoljpjcmigobaaDoor
