/- Joined texts: ProW, ProX, Kx. -/
import Derived.Test.YtpoljpjcmigobaaDoorJ34
import Derived.RangeFuncNested
import Derived.RangeFuncBound
import Derived.RangeFuncCalls
import Derived.RangeFuncLeaves
import Derived.Shelf.RegionOpen
import Derived.OwnWalkIn
import Derived.TacticsInMore
import Derived.LoopIn
import Derived.Test.YtpoljpjcmigobaaDoorJ22
/- between's own: who is told through a yield value, told by way of between$1$1. -/
namespace Go.Proofs.YtpoljpjcmigobaaDoor
set_option linter.unusedVariables false
set_option linter.unusedSimpArgs false
open Go.RowKit K Wire
namespace Prolly
open Go.Proofs.YtpoljpjcmigobaaDoor.Obj Go.Proofs.YtpoljpjcmigobaaDoor.Blob
attribute [local go_sem] Oper.semAt_some

/-- who is told through the yield value of a loop -/
structure Zf (σ : Type) where
  l : Nat
  N : Nat → Prop
  I : σ → (Nat → Prop) → World → Prop
  step : σ → Pair → Int → Bool × σ
  cnt : σ → Nat
  ready : σ → Prop
structure ZfOk {σ : Type} (Z : Zf σ) : Prop where
  keep : ∀ s F w w' S, Z.I s F w → Mod S w w' → (∀ k, F k ∨ Z.N k → ¬ S k) → Z.I s F w'
  lt : ∀ s F w k, Z.I s F w → F k ∨ Z.N k → k < w.heap.size
  call : ∀ s F w (k v : ByteArray) (e : Int) (m : Nat), Z.I s F w → Z.ready s → Z.cnt s ≤ 1000000 → YieldAt Fence.wide m Tryd.prog Z.l #[.agg #[.string k, .string v], .int .i64 e] w fun en w' => en = .returned (.bool (Z.step s ⟨k, v⟩ e).1) ∧ ∃ F', Z.I (Z.step s ⟨k, v⟩ e).2 F' w' ∧ Mod F w w' ∧ ∀ k, F' k → F k ∨ w.heap.size ≤ k
  rdy : ∀ s p, Z.ready s → (Z.step s p 0).1 = true → Z.ready (Z.step s p 0).2
  cnt1 : ∀ s p, (Z.step s p 0).1 = true → Z.cnt (Z.step s p 0).2 ≤ Z.cnt s + 1
structure BtIs {σ : Type} (Z : Zf σ) (bl bY : Nat) (x : ByteArray × σ) (F : Nat → Prop) (w : World) : Prop where
  ex : ∃ Fz, Z.I x.2 Fz w ∧ (∀ k, F k ↔ Fz k ∨ k = bl) ∧ ¬ Fz bl ∧ ¬ Fz bY
  last : Has w bl [.string x.1] 9
  yld : Has w bY [.func (.yield Z.l) #[] #[]] 122
def Zf.via {σ : Type} (Z : Zf σ) (bl bY : Nat) : Yf (ByteArray × σ) :=
  { ks := 74, caps := #[.pointer (some ⟨bl, 0, none⟩), .pointer (some ⟨bY, 0, none⟩)], N := fun k => k = bY ∨ Z.N k, I := BtIs Z bl bY, step := stepB Z.step, cnt := fun x => Z.cnt x.2, ready := fun x => Z.ready x.2 }
set_option maxRecDepth 100000 in
set_option maxHeartbeats 4000000 in
theorem via_call {σ : Type} {Z : Zf σ} (ok : ZfOk Z) {bl bY : Nat} (hNl : ¬ Z.N bl) (hNe : bl ≠ bY) (x : ByteArray × σ) (F : Nat → Prop) (w : World) (k v : ByteArray) (e : Int) (h : BtIs Z bl bY x F w) (hr : Z.ready x.2) (hc : Z.cnt x.2 ≤ 1000000) :
    Calls Tryd.prog 74 #[.agg #[.string k, .string v], .int .i64 e, .pointer (some ⟨bl, 0, none⟩), .pointer (some ⟨bY, 0, none⟩)] w fun en w' => en = .returned (.bool (stepB Z.step x ⟨k, v⟩ e).1) ∧ ∃ F', BtIs Z bl bY (stepB Z.step x ⟨k, v⟩ e).2 F' w' ∧ Mod F w w' ∧ ∀ k, F' k → F k ∨ w.heap.size ≤ k := by
  obtain ⟨⟨Fz, h1, h2, h3, h4⟩, hl, hy⟩ := h
  have hma := (Mod.refl (fun _ => False) w).alloc (.cells #[.string k, .string v] 48)
  have hI1 := ok.keep _ _ _ _ _ h1 hma (fun _ _ h => h)
  have hl1 := hl.alloc (.cells #[.string k, .string v] 48)
  have hy1 := hy.alloc (.cells #[.string k, .string v] 48)
  have x0 := hl1.cell (o := 0) rfl
  have y0 := hy1.cell (o := 0) rfl
  have hp1 := Has.new w [.string k, .string v] 48
  have p0 := hp1.cell (o := 0) rfl
  have p1 := hp1.cell (o := 1) rfl
  have HI1 := Lib.hid hI1
  by_cases hb : e = 0 ∧ ltS x.1 k = false
  · obtain ⟨rfl, hlt⟩ := hb
    have e1 : Go.Op.bytesLess x.1.toList k.toList = false := hlt
    have hs : stepB Z.step x ⟨k, v⟩ 0 = (false, x.1, (Z.step x.2 pair0 122).2) := by unfold stepB; rw [if_pos ⟨rfl, hlt⟩]
    rw [hs]
    obtain ⟨fn, tmps, assign, body, hyy, hR⟩ := ok.call x.2 Fz _ ⟨#[]⟩ ⟨#[]⟩ 122 2 hI1 hr hc
    have HR := Lib.hid hR
    clear hR hlt hs
    have hq : (Go.Op.bytesLess k.toList x.1.toList || k.toList == x.1.toList) = true := by
      cases h5 : ltS k x.1 with
      | true => rw [show Go.Op.bytesLess k.toList x.1.toList = true from h5]; rfl
      | false => rw [ltS_tri k x.1 h5 e1]; simp
    have h51 : (k.toList == x.1.toList) = !Go.Op.bytesLess k.toList x.1.toList := by
      cases h5 : Go.Op.bytesLess k.toList x.1.toList with
      | true => rw [Bool.not_true, Bool.eq_false_iff]; intro he; rw [eq_of_beq he] at h5; exact absurd h5 (by have := ltS_irrefl x.1; unfold ltS at this; rw [this]; decide)
      | false => rw [h5] at hq; simpa using hq
    cases h5 : Go.Op.bytesLess k.toList x.1.toList with
    | true =>
      rw [h5] at h51
      simp only [Bool.not_true] at h51
      clear hq
      refine (callsIn_wide (n := 3)).1 ?_
      refine callsIn_of_wp Tryd.func74 rfl trivial ?_
      simp only [Tryd.ntmps74, List.size_toArray, List.length_cons, List.length_nil, Nat.reduceAdd, Nat.reduceSub, Array.replicate_succ, Array.replicate_zero, List.push_toArray, List.append_toArray, List.nil_append, List.cons_append]
      gi_wp2
      refine HR.out.mono ?_
      rintro en w5 ⟨rfl, F', g1, g2, g3⟩
      gi_wp2
      have q1 : ¬ F' bl := fun hf => by
        rcases g3 bl hf with e | e
        · exact h3 e
        · have := hl.lt; simp at e; omega
      have q2 : ¬ F' bY := fun hf => by
        rcases g3 bY hf with e | e
        · exact h4 e
        · have := hy.lt; simp at e; omega
      refine ⟨rfl, _, results_tmp rfl _ _ _, rfl, fun g => F' g ∨ g = bl, ⟨⟨F', g1, fun _ => Iff.rfl, q1, q2⟩, hl1.keep g2 h3, hy1.keep g2 h4⟩, ?_, ?_⟩
      · exact Mod.trans (hma.mono fun _ _ h => h.elim) g2 (fun g hg hf => (h2 g).2 (.inl hf))
      · rintro g (hf | rfl)
        · rcases g3 g hf with e | e
          · exact .inl ((h2 g).2 (.inl e))
          · right; simp at e; omega
        · exact .inl ((h2 _).2 (.inr rfl))
    | false =>
      rw [h5] at h51
      simp only [Bool.not_false] at h51
      clear hq
      refine (callsIn_wide (n := 3)).1 ?_
      refine callsIn_of_wp Tryd.func74 rfl trivial ?_
      simp only [Tryd.ntmps74, List.size_toArray, List.length_cons, List.length_nil, Nat.reduceAdd, Nat.reduceSub, Array.replicate_succ, Array.replicate_zero, List.push_toArray, List.append_toArray, List.nil_append, List.cons_append]
      gi_wp2
      refine HR.out.mono ?_
      rintro en w5 ⟨rfl, F', g1, g2, g3⟩
      gi_wp2
      have q1 : ¬ F' bl := fun hf => by
        rcases g3 bl hf with e | e
        · exact h3 e
        · have := hl.lt; simp at e; omega
      have q2 : ¬ F' bY := fun hf => by
        rcases g3 bY hf with e | e
        · exact h4 e
        · have := hy.lt; simp at e; omega
      refine ⟨rfl, _, results_tmp rfl _ _ _, rfl, fun g => F' g ∨ g = bl, ⟨⟨F', g1, fun _ => Iff.rfl, q1, q2⟩, hl1.keep g2 h3, hy1.keep g2 h4⟩, ?_, ?_⟩
      · exact Mod.trans (hma.mono fun _ _ h => h.elim) g2 (fun g hg hf => (h2 g).2 (.inl hf))
      · rintro g (hf | rfl)
        · rcases g3 g hf with e | e
          · exact .inl ((h2 g).2 (.inl e))
          · right; simp at e; omega
        · exact .inl ((h2 _).2 (.inr rfl))
  · have hs : stepB Z.step x ⟨k, v⟩ e = ((Z.step x.2 ⟨k, v⟩ e).1, k, (Z.step x.2 ⟨k, v⟩ e).2) := by unfold stepB; rw [if_neg hb]
    rw [hs]
    have hms := (Mod.refl (fun g => g = bl) (w.alloc (.cells #[.string k, .string v] 48))).set1 rfl 0 (.string k)
    have hI2 := ok.keep _ _ _ _ _ hI1 hms (fun g hg e => by subst e; exact hg.elim h3 hNl)
    obtain ⟨fn, tmps, assign, body, hyy, hR⟩ := ok.call x.2 Fz _ k v e 2 hI2 hr hc
    have f0 := hl1.frozen 0
    have hl2 := hl1.set 0 (.string k)
    have hy2 := hy1.keep hms (fun e => hNe e.symm)
    have y9 := hy2.cell (o := 0) rfl
    have hp2 := hp1.keep hms (fun e => by have := hl.lt; omega)
    have p8 := hp2.cell (o := 0) rfl
    have p9 := hp2.cell (o := 1) rfl
    have HR := Lib.hid hR
    clear hR hs
    by_cases he : e = 0
    · subst he
      have hlt : ltS x.1 k = true := by
        cases h5 : ltS x.1 k with
        | true => rfl
        | false => exact absurd ⟨rfl, h5⟩ hb
      have e2 : Go.Op.bytesLess k.toList x.1.toList = false := ltS_asymm hlt
      have e3 : (k.toList == x.1.toList) = false := by
        rw [Bool.eq_false_iff]; intro he; unfold ltS at hlt; rw [eq_of_beq he] at e2; rw [← eq_of_beq he] at hlt; have := ltS_irrefl k; unfold ltS at this; rw [this] at hlt; cases hlt
      clear hlt hb
      refine (callsIn_wide (n := 3)).1 ?_
      refine callsIn_of_wp Tryd.func74 rfl trivial ?_
      simp only [Tryd.ntmps74, List.size_toArray, List.length_cons, List.length_nil, Nat.reduceAdd, Nat.reduceSub, Array.replicate_succ, Array.replicate_zero, List.push_toArray, List.append_toArray, List.nil_append, List.cons_append]
      gi_wp2
      refine HR.out.mono ?_
      rintro en w5 ⟨rfl, F', g1, g2, g3⟩
      gi_wp2
      have q1 : ¬ F' bl := fun hf => by
        rcases g3 bl hf with e | e
        · exact h3 e
        · have := hl.lt; simp at e; omega
      have q2 : ¬ F' bY := fun hf => by
        rcases g3 bY hf with e | e
        · exact h4 e
        · have := hy.lt; simp at e; omega
      refine ⟨rfl, _, results_tmp rfl _ _ _, rfl, fun g => F' g ∨ g = bl, ⟨⟨F', g1, fun _ => Iff.rfl, q1, q2⟩, hl2.keep g2 h3, hy2.keep g2 h4⟩, ?_, ?_⟩
      · exact Mod.trans (Mod.trans (hma.mono fun _ _ h => h.elim) hms (fun g hg hf => (h2 g).2 (.inr hf))) g2 (fun g hg hf => (h2 g).2 (.inl hf))
      · rintro g (hf | rfl)
        · rcases g3 g hf with e | e
          · exact .inl ((h2 g).2 (.inl e))
          · right; simp at e; omega
        · exact .inl ((h2 _).2 (.inr rfl))
    · have b1 : (e == 0) = false := by simpa using he
      clear he hb
      refine (callsIn_wide (n := 3)).1 ?_
      refine callsIn_of_wp Tryd.func74 rfl trivial ?_
      simp only [Tryd.ntmps74, List.size_toArray, List.length_cons, List.length_nil, Nat.reduceAdd, Nat.reduceSub, Array.replicate_succ, Array.replicate_zero, List.push_toArray, List.append_toArray, List.nil_append, List.cons_append]
      gi_wp2
      refine HR.out.mono ?_
      rintro en w5 ⟨rfl, F', g1, g2, g3⟩
      gi_wp2
      have q1 : ¬ F' bl := fun hf => by
        rcases g3 bl hf with e | e
        · exact h3 e
        · have := hl.lt; simp at e; omega
      have q2 : ¬ F' bY := fun hf => by
        rcases g3 bY hf with e | e
        · exact h4 e
        · have := hy.lt; simp at e; omega
      refine ⟨rfl, _, results_tmp rfl _ _ _, rfl, fun g => F' g ∨ g = bl, ⟨⟨F', g1, fun _ => Iff.rfl, q1, q2⟩, hl2.keep g2 h3, hy2.keep g2 h4⟩, ?_, ?_⟩
      · exact Mod.trans (Mod.trans (hma.mono fun _ _ h => h.elim) hms (fun g hg hf => (h2 g).2 (.inr hf))) g2 (fun g hg hf => (h2 g).2 (.inl hf))
      · rintro g (hf | rfl)
        · rcases g3 g hf with e | e
          · exact .inl ((h2 g).2 (.inl e))
          · right; simp at e; omega
        · exact .inl ((h2 _).2 (.inr rfl))
end Prolly
end Go.Proofs.YtpoljpjcmigobaaDoor
/- between's own is one who is told. -/
namespace Go.Proofs.YtpoljpjcmigobaaDoor
set_option linter.unusedVariables false
set_option linter.unusedSimpArgs false
open Go.RowKit K Wire
namespace Prolly
open Go.Proofs.YtpoljpjcmigobaaDoor.Obj Go.Proofs.YtpoljpjcmigobaaDoor.Blob

set_option maxRecDepth 100000 in
theorem via_ok {σ : Type} {Z : Zf σ} (ok : ZfOk Z) {bl bY : Nat} (hNl : ¬ Z.N bl) (hNe : bl ≠ bY) : YfOk (Z.via bl bY) where
  keep := fun x F w w' S h m hs => by
    obtain ⟨⟨Fz, h1, h2, h3, h4⟩, hl, hy⟩ := h
    exact ⟨⟨Fz, ok.keep _ _ _ _ _ h1 m (fun k hk => hs k (hk.elim (fun h => .inl ((h2 k).2 (.inl h))) (fun h => .inr (.inr h)))), h2, h3, h4⟩, hl.keep m (hs bl (.inl ((h2 bl).2 (.inr rfl)))), hy.keep m (hs bY (.inr (.inl rfl)))⟩
  lt := fun x F w k h hk => by
    obtain ⟨⟨Fz, h1, h2, _, _⟩, hl, hy⟩ := h
    rcases hk with hk | hk | hk
    · rcases (h2 k).1 hk with e | e
      · exact ok.lt _ _ _ _ h1 (.inl e)
      · subst e; exact hl.lt
    · subst hk; exact hy.lt
    · exact ok.lt _ _ _ _ h1 (.inr hk)
  enter := fun w k v e => by kernel_rfl
  call := fun x F w k v e h hr hc => via_call ok hNl hNe x F w k v e h hr hc
  rdy := fun x p hr h => by
    change (stepB Z.step x p 0).1 = true at h
    show Z.ready (stepB Z.step x p 0).2.2
    unfold stepB at h ⊢
    split at h
    · cases h
    · rename_i hn
      rw [if_neg hn]
      exact ok.rdy _ _ hr h
  cnt1 := fun x p h => by
    change (stepB Z.step x p 0).1 = true at h
    show Z.cnt (stepB Z.step x p 0).2.2 ≤ Z.cnt x.2 + 1
    unfold stepB at h ⊢
    split at h
    · cases h
    · rename_i hn
      rw [if_neg hn]
      exact ok.cnt1 _ _ h
end Prolly
end Go.Proofs.YtpoljpjcmigobaaDoor
/- A range over a function, whoever turns what: one round; the statement. -/
namespace Go.Proofs.YtpoljpjcmigobaaDoor
set_option linter.unusedVariables false
set_option linter.unusedSimpArgs false
open Go Go.RowKit
namespace K

/-- the loop's record -/
def recL (fn : FuncId) (tmps : Array Value) (ps : Array Tmp) (assign body : Code) (D : Nat) (st : LoopState) (pe : Option Code) : Loop :=
  { state := st, pending := pe, fn := fn, tmps := tmps, params := ps, assign := assign, body := body, defers := D }
/-- how a body ends, and what its round hands back -/
def exitOf : Exit → Option (Option Code)
  | .normal => some none
  | .ret => some (some .ret)
  | .exit id => some (some (.exit id))
  | .goto t => some (some (.goto t))
  | _ => none
def stOf : Option Code → LoopState
  | none => .ready
  | some _ => .done
/-- what is asked behind a round's body -/
def outP (l : Nat) (rc : LoopState → Option Code → Loop) (R : Ending → World → Prop) (e : Exit) (_ : Act) (w : World) : Prop :=
  ∃ pe, exitOf e = some pe ∧ w.heap[l]? = some (.loop (rc .busy none)) ∧ R (.returned (.bool pe.isNone)) (w.putObj l (.loop (rc (stOf pe) pe)))
theorem round_of {P : Program} {m l D : Nat} {fn : FuncId} {tmps : Array Value} {ps : Array Tmp} {assign body : Code} {W : World} {args : Array Value} {R : Ending → World → Prop}
    (hl : W.heap[l]? = some (.loop (recL fn tmps ps assign body D .ready none))) (hs : args.size = ps.size)
    (h : assign.wpIn (Fence.wide.inRound l) m P (Exit.then (fun a₁ w₁ => w₁.heap[l]? = some (.loop (recL fn tmps ps assign body D .ready none)) ∧
      body.wpIn (Fence.wide.inRound l) m P (outP l (recL fn tmps ps assign body D) R) a₁ (w₁.putObj l (.loop (recL fn tmps ps assign body D .busy none)))) (fun _ _ _ => False))
      { tmps := (ps.zip args).foldl (fun t (p, v) => t.setIfInBounds p v) tmps, defers := [] } W) : YieldAt Fence.wide m P l args W R := by
  refine ⟨fn, _, assign, body, run_yield (P := P) (args := args) hl hs, roundIn_of_wpIn trivial (wpIn_mono h ?_)⟩
  rintro e a₁ w₁ hq
  cases e with
  | normal =>
    obtain ⟨hl1, hb⟩ := hq
    refine ⟨_, run_beginRound hl1 rfl, wpIn_mono hb ?_⟩
    rintro e a₂ w₃ ⟨pe, he, h1, h2⟩
    cases e with
    | normal => obtain rfl := Option.some.inj he; exact ⟨_, _, run_endRound none h1, h2⟩
    | ret => obtain rfl := Option.some.inj he; exact ⟨_, _, run_endRound (some .ret) h1, h2⟩
    | exit id => obtain rfl := Option.some.inj he; exact ⟨_, _, run_endRound (some (.exit id)) h1, h2⟩
    | goto t => obtain rfl := Option.some.inj he; exact ⟨_, _, run_endRound (some (.goto t)) h1, h2⟩
    | panic c => cases he
    | outgrown => cases he
  | exit id => exact hq.elim
  | goto t => exact hq.elim
  | ret => exact hq.elim
  | panic c => exact hq.elim
  | outgrown => exact hq.elim
/-- the world with the loop's record laid -/
def loopW (w : World) (fn : FuncId) (tmps : Array Value) (ps : Array Tmp) (assign body : Code) : World :=
  (w.alloc (.deferred (some []))).alloc (.loop (recL fn tmps ps assign body w.heap.size .ready none))
theorem loopW_facts (w : World) (fn : FuncId) (tmps : Array Value) (ps : Array Tmp) (assign body : Code) :
    (loopW w fn tmps ps assign body).heap[w.heap.size + 1]? = some (.loop (recL fn tmps ps assign body w.heap.size .ready none)) ∧ (loopW w fn tmps ps assign body).heap[w.heap.size]? = some (.deferred (some [])) ∧
      Mod (fun _ => False) w (loopW w fn tmps ps assign body) ∧ (loopW w fn tmps ps assign body).heap.size = w.heap.size + 2 := by
  unfold loopW
  refine ⟨?_, ?_, ((Mod.refl _ w).alloc _).alloc _, by simp⟩
  · have := World.alloc_heap_new (w.alloc (.deferred (some []))) (.loop (recL fn tmps ps assign body w.heap.size .ready none)); rwa [World.size_alloc] at this
  · exact (Below.heap_alloc _ _ _ (by simp)).trans (World.alloc_heap_new w _)
/-- behind the loop -/
def behindL (P : Program) (Q : Exit → Act → World → Prop) (a : Act) (w : World) (pe : Option Code) : Prop := pe.elim (Q .normal a w) (fun c => c.wp P Q a w)
theorem range_of {P : Program} {g : Operand} {ps : Array Tmp} {assign body : Code} {Q : Exit → Act → World → Prop} {a : Act} {w : World} {gf : Nat} {lb : Array Value} (hg : a.eval g = .func (.func gf) #[] lb)
    (eg : ∀ args w, (callFunc gf args).run P w = .ok (.enter gf args) w)
    (h : ∀ fn, Calls P gf (#[.func (.yield (w.heap.size + 1)) #[] #[]] ++ lb) (loopW w fn a.tmps ps assign body) fun e W2 => ∃ v pe, e = .returned v ∧
      W2.heap[w.heap.size + 1]? = some (.loop (recL fn a.tmps ps assign body w.heap.size (stOf pe) pe)) ∧
      behindL P Q { a with defers := { target := .collected w.heap.size, args := #[] } :: a.defers } (W2.putObj (w.heap.size + 1) (.loop (recL fn a.tmps ps assign body w.heap.size .exhausted pe))) pe) :
    (Code.rangeFunc g ps assign body).wp P Q a w := by
  refine (wpIn_wide (n := 2)).1 (wpIn_rangeFunc ?_)
  intro fn _
  have he : (Instr.enterLoop fn a.tmps ps assign body Fence.wide.round).run P w = .ok (w.heap.size + 1, [{ target := .collected w.heap.size, args := #[] }]) (loopW w fn a.tmps ps assign body) := run_enterLoop_outer _ _ _ _ _
  have hr : (resolve a.eval (rangeCall g (w.heap.size + 1)) 0).run P (loopW w fn a.tmps ps assign body) = .ok { target := .fn (.func gf) lb, args := #[.func (.yield (w.heap.size + 1)) #[] #[]] } (loopW w fn a.tmps ps assign body) := by
    simp only [resolve, hg]
    simp [go_sem]
  have hi : (invoke (.fn (.func gf) lb) #[.func (.yield (w.heap.size + 1)) #[] #[]]).run P (loopW w fn a.tmps ps assign body) = .ok (.enter gf (#[.func (.yield (w.heap.size + 1)) #[] #[]] ++ lb)) (loopW w fn a.tmps ps assign body) := by
    simp [invoke, go_sem, eg]
  refine ⟨_, _, _, _, _, _, _, _, he, hr, fun _ _ => trivial, hi, fun h => (by cases h), ?_⟩
  refine callsIn_wide.2 (Calls.mono (h fn) ?_)
  rintro e W2 ⟨v, pe, rfl, h1, h2⟩
  have hb : (recL fn a.tmps ps assign body w.heap.size (stOf pe) pe).state ≠ .busy := by cases pe <;> (intro h; cases h)
  refine ⟨pe, W2.putObj (w.heap.size + 1) (.loop (recL fn a.tmps ps assign body w.heap.size .exhausted pe)), run_endLoop (P := P) h1 hb, ?_⟩
  cases pe with
  | none => exact h2
  | some c => exact wpIn_wide.2 h2
theorem Mod.putObj {S : Nat → Prop} {a w : World} {r : Nat} (h : Mod S a w) (hr : S r ∨ a.heap.size ≤ r) (o : Obj) : Mod S a (w.putObj r o) :=
  ⟨h.os, h.tape, h.output, by rw [World.putObj_size]; exact h.size, fun k hk hs => by
    rw [World.putObj_heap_other (by rintro rfl; rcases hr with hr | hr; exact hs hr; omega)]; exact h.block k hk hs⟩
/-- append of some elements, in a round -/
theorem appG_in {F : Fence} {nn : Nat} {P : Program} {w : World} {ops : Array Oper} {rest : List Oper} {o : Oper} {a : Act} {Q : Exit → Act → World → Prop} (s x : Operand) {t e size bytes : Nat} (T : SliceT P t e size bytes)
    (base : Nat) (v : Value) (n : Nat) (xs : List Value) (hown : w.ownsRow base e size v n xs) (ad : Addr) (m c : Nat) (news : List Value)
    (hgd : o.guard = none) (ho : o.op = .call { callee := .builtin .append, args := #[s, x], argTypes := #[t, t] })
    (hs : a.eval s = v) (hx : a.eval x = .slice (some ad) m c) (hl : news.length = m * size) (hA : Cells w (some ad) news) (h1 : ∀ u ∈ news, u.oneCell' = true)
    (hb : (n + m) * bytes ≤ 140737488355328) (hm : n + m ≤ maxLen) (hbase : base ≤ w.heap.size)
    (h : ∀ v' w', w'.ownsRow base e size v' (n + m) (xs ++ news) → Mod (fun k => v.ownBlock = some k) w w' → RowOf w v v' → wpListIn F nn P ops Q rest (a.put o.dst v') w') : wpListIn F nn P ops Q (o :: rest) a w := by
  obtain ⟨ht, hsz, i, z, hi, hz, hsize, hby, hzs⟩ := T
  have hnews : ∀ j u, news[j]? = some u → w.cell? (ad.add j) = some u := by
    rcases hA with hA | ⟨b, o, hA, hc⟩
    · intro j u hj; rw [hA] at hj; simp at hj
    · obtain rfl := Option.some.inj hA
      intro j u hj; rw [Addr.add_lit]; exact hc j u hj
  refine wpListIn_plain hgd fun K hK' => ?_
  obtain ⟨v', w', hr, h2, h3, h4⟩ := run_append_own2 (P := P) w base t o.type e i z size bytes ht hi hz hsize hby hzs hsz v n xs hown ad m c news hl hnews h1 hm hb hbase
  unfold Oper.wpIn
  refine ⟨?_, ?_⟩
  · simp [Oper.about, ho, resolve, Target.leads, Sem.run_pure]
  · rw [Oper.semAt_plain F _ _ (by rw [ho]; intro c hc'; cases hc')]
    simp [execOp, ho, resolve, invoke, builtin, hs, hx, hr, Result.andThen]
    exact hK' _ _ (h v' w' h2 (Mod.grown (Mod.refl _ _) h3 fun k hk _ => hk) h4)
end K
end Go.Proofs.YtpoljpjcmigobaaDoor
