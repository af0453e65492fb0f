/- Plain words for NetOnce: how often frames come, which ones are lost. -/
import Derived.Test.YtocpifoimoaibaaNetL
namespace Go.Proofs.Ytocpifoimoaibaa
set_option linter.unusedVariables false
set_option linter.unusedSimpArgs false
open Go.RowKit K
namespace Net

def keyF (s : ByteArray) : Int := ((s.data.toList.getD 0 0).toNat : Int) * 256 + ((s.data.toList.getD 1 0).toNat : Int)
def cnt (l : List ByteArray) (k : Int) : Nat := l.countP (fun s => decide (keyF s = k))
theorem cnt_nil (k : Int) : cnt [] k = 0 := rfl
theorem cnt_cons (s : ByteArray) (l : List ByteArray) (k : Int) : cnt (s :: l) k = cnt l k + (if keyF s = k then 1 else 0) := by
  unfold cnt; rw [List.countP_cons]; simp
theorem cnt_app (a b : List ByteArray) (k : Int) : cnt (a ++ b) k = cnt a k + cnt b k := by unfold cnt; rw [List.countP_append]
theorem cnt_snoc (s : ByteArray) (l : List ByteArray) (k : Int) : cnt (l ++ [s]) k = cnt l k + (if keyF s = k then 1 else 0) := by rw [cnt_app, cnt_cons, cnt_nil]; omega
def loses (l : List Fate) : Nat := l.countP (fun f => decide (f.k = 1))
def NoTurn (l : List Fate) : Prop := ∀ f ∈ l, f.k ≠ 2
theorem noTurn_hd {l : List Fate} (h : NoTurn l) : (hd l).k ≠ 2 := by
  cases l with
  | nil => simp [hd, fate0]
  | cons f l => exact h f (List.mem_cons_self ..)
theorem noTurn_tail {l : List Fate} (h : NoTurn l) : NoTurn l.tail := fun f hf => h f (List.mem_of_mem_tail hf)
theorem loses_tail (l : List Fate) : loses l.tail + (if (hd l).k = 1 then 1 else 0) = loses l := by
  cases l with
  | nil => simp [hd, fate0, loses]
  | cons f l =>
    unfold loses
    rw [List.countP_cons]
    simp [hd]
theorem goes_cnt (f : Fate) (s : ByteArray) (ws : List ByteArray) (k : Int) (hf : f.k ≠ 2) : cnt (goes f s ws).1 k + cnt (goes f s ws).2 k ≤ cnt ws k + 2 * (if keyF s = k then 1 else 0) := by
  unfold goes
  rw [if_neg hf]
  by_cases h1 : f.k = 1
  · rw [if_pos h1]; simp only [cnt_nil]; omega
  rw [if_neg h1]
  by_cases h3 : f.k = 3
  · rw [if_pos h3]; simp only [cnt_nil, cnt_snoc]; omega
  rw [if_neg h3]
  by_cases h4 : f.k = 4
  · rw [if_pos h4]; simp only [cnt_nil, cnt_cons]; omega
  · rw [if_neg h4]; simp only [cnt_nil, cnt_cons]; omega
theorem goes_alive (f : Fate) (s : ByteArray) (ws : List ByteArray) (k : Int) (hf : f.k ≠ 2) (h : 0 < cnt ws k ∨ (keyF s = k ∧ f.k ≠ 1)) : 0 < cnt (goes f s ws).1 k + cnt (goes f s ws).2 k := by
  have hz : 0 < cnt ws k + (if keyF s = k then 1 else 0) ∨ f.k = 1 ∧ 0 < cnt ws k := by
    rcases h with h | ⟨h, h'⟩
    · exact .inl (by omega)
    · rw [if_pos h]; exact .inl (by omega)
  unfold goes
  rw [if_neg hf]
  by_cases h1 : f.k = 1
  · rw [if_pos h1]; simp only [cnt_nil]
    rcases h with h | h
    · omega
    · exact absurd h1 h.2
  rw [if_neg h1]
  have hz2 : 0 < cnt ws k + (if keyF s = k then 1 else 0) := by
    rcases hz with hz | hz
    · exact hz
    · exact absurd hz.1 h1
  by_cases h3 : f.k = 3
  · rw [if_pos h3]; simp only [cnt_nil, cnt_snoc]; omega
  rw [if_neg h3]
  by_cases h4 : f.k = 4
  · rw [if_pos h4]; simp only [cnt_nil, cnt_cons]; omega
  · rw [if_neg h4]; simp only [cnt_nil, cnt_cons]; omega
theorem countP_le {ks : List Int} {p q : Int → Bool} (h : ∀ k ∈ ks, q k = true → p k = true) : ks.countP q ≤ ks.countP p := by
  induction ks with
  | nil => simp
  | cons a ks ih =>
    have h1 := ih (fun k hk => h k (List.mem_cons_of_mem _ hk))
    have h2 := h a (List.mem_cons_self ..)
    rw [List.countP_cons, List.countP_cons]
    cases hq : q a with
    | true => rw [h2 hq]; simp; omega
    | false => simp; omega
theorem countP_le1 {ks : List Int} {p q : Int → Bool} (k0 : Int) (hn : ks.Nodup) (h : ∀ k ∈ ks, k ≠ k0 → q k = true → p k = true) : ks.countP q ≤ ks.countP p + 1 := by
  induction ks with
  | nil => simp
  | cons a ks ih =>
    obtain ⟨hna, hn2⟩ := List.nodup_cons.1 hn
    by_cases ha : a = k0
    · have h1 : ks.countP q ≤ ks.countP p := countP_le (fun k hk => h k (List.mem_cons_of_mem _ hk) (fun e => hna (by rw [ha, ← e]; exact hk)))
      rw [List.countP_cons, List.countP_cons]
      split <;> split <;> omega
    · have h1 := ih hn2 (fun k hk => h k (List.mem_cons_of_mem _ hk))
      have h2 := h a (List.mem_cons_self ..) ha
      rw [List.countP_cons, List.countP_cons]
      cases hq : q a with
      | true => rw [h2 hq]; simp; omega
      | false => simp; omega
/-- what holds between two frames: pend came there and has not been served yet -/
structure Onc (L0 : Nat) (ks : List Int) (pend : List ByteArray) (l : List Fate) (wt wb st got : List ByteArray) : Prop where
  a : ∀ k, cnt (st ++ pend ++ wt) k ≤ 2 * ks.count k
  b : ∀ k, cnt (got ++ wb) k ≤ 2 * cnt st k
  c : ks.countP (fun k => decide (cnt (pend ++ wt ++ wb ++ got) k = 0)) + loses l ≤ L0
  d : NoTurn l
  n : ks.Nodup
theorem Onc.send {L0 : Nat} {ks : List Int} {l : List Fate} {wt wb st got : List ByteArray} (h : Onc L0 ks [] l wt wb st got) (s : ByteArray) (hs : keyF s ∉ ks) :
    Onc L0 (ks ++ [keyF s]) (goes (hd l) s wt).1 l.tail (goes (hd l) s wt).2 wb st got := by
  have hd2 := noTurn_hd h.d
  refine ⟨fun k => ?_, h.b, ?_, noTurn_tail h.d, ?_⟩
  · have h1 := h.a k
    have h2 := goes_cnt (hd l) s wt k hd2
    rw [List.append_nil] at h1
    simp only [cnt_app] at h1 ⊢
    rw [List.count_append]
    have h3 : [keyF s].count k = if keyF s = k then 1 else 0 := by
      rw [List.count_cons, List.count_nil]; simp
    rw [h3]
    split at h2 <;> simp_all <;> omega
  · rw [List.countP_append]
    have h1 := h.c
    have h2 := loses_tail l
    have h3 : ks.countP (fun k => decide (cnt ((goes (hd l) s wt).1 ++ (goes (hd l) s wt).2 ++ wb ++ got) k = 0)) ≤ ks.countP (fun k => decide (cnt ([] ++ wt ++ wb ++ got) k = 0)) := by
      refine countP_le fun k _ hk => ?_
      simp only [decide_eq_true_eq, cnt_app, cnt_nil] at hk ⊢
      rcases Nat.eq_zero_or_pos (cnt wt k) with h0 | h0
      · omega
      · have := goes_alive (hd l) s wt k hd2 (.inl h0); omega
    have h4 : [keyF s].countP (fun k => decide (cnt ((goes (hd l) s wt).1 ++ (goes (hd l) s wt).2 ++ wb ++ got) k = 0)) ≤ if (hd l).k = 1 then 1 else 0 := by
      rw [List.countP_cons, List.countP_nil]
      by_cases h5 : (hd l).k = 1
      · rw [if_pos h5]; split <;> omega
      · have := goes_alive (hd l) s wt (keyF s) hd2 (.inr ⟨rfl, h5⟩)
        rw [if_neg h5, if_neg]
        · omega
        · simp only [decide_eq_true_eq, cnt_app]; omega
    omega
  · rw [List.nodup_append]
    refine ⟨h.n, by simp, fun a ha b hb => ?_⟩
    obtain rfl := List.mem_singleton.1 hb
    exact fun e => hs (e ▸ ha)
theorem Onc.back {L0 : Nat} {ks : List Int} {c : ByteArray} {pend : List ByteArray} {l : List Fate} {wt wb st got : List ByteArray} (h : Onc L0 ks (c :: pend) l wt wb st got) :
    Onc L0 ks pend l.tail wt (goes (hd l) c wb).2 (st ++ [c]) (got ++ (goes (hd l) c wb).1) := by
  have hd2 := noTurn_hd h.d
  refine ⟨fun k => ?_, fun k => ?_, ?_, noTurn_tail h.d, h.n⟩
  · have h1 := h.a k
    simp only [cnt_app, cnt_cons, cnt_nil] at h1 ⊢
    omega
  · have h1 := h.b k
    have h2 := goes_cnt (hd l) c wb k hd2
    simp only [cnt_app, cnt_cons, cnt_nil] at h1 ⊢
    split at h2 <;> simp_all <;> omega
  · have h1 := h.c
    have h2 := loses_tail l
    have key : ∀ k, (0 < cnt wb k ∨ (keyF c = k ∧ (hd l).k ≠ 1)) → 0 < cnt (goes (hd l) c wb).1 k + cnt (goes (hd l) c wb).2 k := fun k hk => goes_alive (hd l) c wb k hd2 hk
    by_cases h5 : (hd l).k = 1
    · rw [if_pos h5] at h2
      have h3 := countP_le1 (ks := ks) (p := fun k => decide (cnt (c :: pend ++ wt ++ wb ++ got) k = 0)) (q := fun k => decide (cnt (pend ++ wt ++ (goes (hd l) c wb).2 ++ (got ++ (goes (hd l) c wb).1)) k = 0)) (keyF c) h.n (fun k _ hne hk => by
        simp only [decide_eq_true_eq, cnt_app, cnt_cons] at hk ⊢
        rw [if_neg (fun e => hne e.symm)]
        rcases Nat.eq_zero_or_pos (cnt wb k) with h0 | h0
        · omega
        · have := key k (.inl h0); omega)
      omega
    · rw [if_neg h5] at h2
      have h3 : ks.countP (fun k => decide (cnt (pend ++ wt ++ (goes (hd l) c wb).2 ++ (got ++ (goes (hd l) c wb).1)) k = 0)) ≤ ks.countP (fun k => decide (cnt (c :: pend ++ wt ++ wb ++ got) k = 0)) := by
        refine countP_le fun k _ hk => ?_
        simp only [decide_eq_true_eq, cnt_app, cnt_cons] at hk ⊢
        by_cases he : keyF c = k
        · have := key k (.inr ⟨he, h5⟩); omega
        · rw [if_neg he]
          rcases Nat.eq_zero_or_pos (cnt wb k) with h0 | h0
          · omega
          · have := key k (.inl h0); omega
      omega
/-- who notes what comes, and answers it as it came -/
def Notes (V : Srv (List ByteArray)) : Prop := ∀ st s, V.step st s = (s, st ++ [s])
theorem back_notes {V : Srv (List ByteArray)} (hV : Notes V) (x : AS (List ByteArray)) (c : ByteArray) (hc : c.size ≠ 0) : V.back x c = ⟨x.out ++ (goes (hd x.l) c x.wb).1, x.l.tail, (goes (hd x.l) c x.wb).2, x.st ++ [c]⟩ := by
  unfold Srv.back
  rw [hV]
  dsimp only
  rw [if_neg hc]
theorem onc_asks {V : Srv (List ByteArray)} (hV : Notes V) {L0 : Nat} {ks : List Int} {wt got : List ByteArray} : ∀ (come : List ByteArray) (x : AS (List ByteArray)), (∀ c ∈ come, c.size ≠ 0) → Onc L0 ks come x.l wt x.wb x.st (got ++ x.out) →
    Onc L0 ks [] (come.foldl V.back x).l wt (come.foldl V.back x).wb (come.foldl V.back x).st (got ++ (come.foldl V.back x).out)
  | [], x, _, h => h
  | c :: come, x, hs, h => by
    rw [List.foldl_cons]
    refine onc_asks hV come _ (fun c hc => hs c (List.mem_cons_of_mem _ hc)) ?_
    rw [back_notes hV x c (hs c (List.mem_cons_self ..))]
    have := h.back
    rw [List.append_assoc] at this
    exact this
theorem asks_tail {V : Srv (List ByteArray)} (hV : Notes V) : ∀ (come : List ByteArray) (x : AS (List ByteArray)), (∀ c ∈ come, c.size ≠ 0) → (come.foldl V.back x).l.length ≤ x.l.length ∧ (come.foldl V.back x).st = x.st ++ come ∧ (x.l = [] → (come ≠ [] ∨ x.wb = []) → (come.foldl V.back x).wb = [] ∧ (come.foldl V.back x).l = [])
  | [], x, _ => ⟨Nat.le_refl _, by simp, fun h1 h2 => ⟨by simpa using h2, h1⟩⟩
  | c :: come, x, hs => by
    rw [List.foldl_cons, back_notes hV x c (hs c (List.mem_cons_self ..))]
    obtain ⟨h1, h2, h3⟩ := asks_tail hV come ⟨x.out ++ (goes (hd x.l) c x.wb).1, x.l.tail, (goes (hd x.l) c x.wb).2, x.st ++ [c]⟩ (fun c hc => hs c (List.mem_cons_of_mem _ hc))
    refine ⟨Nat.le_trans h1 (by simp), by rw [h2]; simp, fun hl _ => h3 (by simp [hl]) (.inr ?_)⟩
    simp [hl, hd, fate0, goes]
end Net
end Go.Proofs.Ytocpifoimoaibaa
