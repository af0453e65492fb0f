/- Joined texts: ProY, ProLz, ProLi, ProLj. -/
import Derived.Test.YtpoljpjcmigobaaDoorJ35
/- between's iterator: for whoever is told through a yield value. -/
namespace Go.Proofs.YtpoljpjcmigobaaDoor
set_option linter.unusedVariables false
set_option linter.unusedSimpArgs false
open Go.RowKit K Wire
namespace Prolly
open Go.Proofs.YtpoljpjcmigobaaDoor.Obj Go.Proofs.YtpoljpjcmigobaaDoor.Blob

/-- who answers and who is told, as one; they turn none of C -/
structure Jz {σ : Type} (G : Gf) (Z : Zf σ) (C : Nat → Prop) (a : List ByteArray) (s : σ) (w : World) : Prop where
  ex : ∃ Fg Fz, G.I a Fg w ∧ Z.I s Fz w ∧ (∀ k, Fg k → ¬ Fz k ∧ ¬ Z.N k ∧ ¬ C k) ∧ (∀ k, Fz k → ¬ G.N k ∧ ¬ C k) ∧ (∀ k, C k → k < w.heap.size)
/-- what it asks, and what it tells -/
def iterS {σ : Type} (step : σ → Pair → Int → Bool × σ) (objs : List Ob) (lo hi root : ByteArray) (a : List ByteArray) (s : σ) : List ByteArray × σ :=
  ((walkS (stepB step) objs lo hi 30 (-1) (link0 root) (a, (⟨#[]⟩, s))).2.1, (walkS (stepB step) objs lo hi 30 (-1) (link0 root) (a, (⟨#[]⟩, s))).2.2.2)
set_option maxRecDepth 100000 in
set_option maxHeartbeats 4000000 in
theorem iter_calls {σ : Type} {G : Gf} {Z : Zf σ} {objs : List Ob} (okG : GfOk G objs) (okZ : ZfOk Z) (hob : ObsOk objs) (root lo hi : ByteArray) {C : Nat → Prop} {a : List ByteArray} {s : σ} {w : World} (h : Jz G Z C a s w) (hrd : Z.ready s) (ha : a.length ≤ 800000) (hc : Z.cnt s ≤ 800000) (b0 b1 b2 b3 : Nat)
    (h0 : Has w b0 [.func (.func G.ks) #[] G.caps] 35) (h1 : Has w b1 [.string root] 9) (h2 : Has w b2 [.string lo] 9) (h3 : Has w b3 [.string hi] 9) :
    Calls Tryd.prog 72 #[.func (.yield Z.l) #[] #[], .pointer (some ⟨b0, 0, none⟩), .pointer (some ⟨b1, 0, none⟩), .pointer (some ⟨b2, 0, none⟩), .pointer (some ⟨b3, 0, none⟩)] w fun e w' =>
      (∃ v, e = .returned v) ∧ Jz G Z C (iterS Z.step objs lo hi root a s).1 (iterS Z.step objs lo hi root a s).2 w' ∧ Mod (fun g => ¬ C g) w w' := by
  obtain ⟨⟨Fg, Fz, g1, g2, g3, g4, g5⟩⟩ := h
  obtain ⟨W2, hW2⟩ : ∃ W2, (w.alloc (.cells #[.func (.yield Z.l) #[] #[]] 122)).alloc (.cells #[.string ⟨#[]⟩] 9) = W2 := ⟨_, rfl⟩
  have hma : Mod (fun _ => False) w W2 := by rw [← hW2]; exact ((Mod.refl (fun _ => False) w).alloc _).alloc _
  have hsz : W2.heap.size = w.heap.size + 2 := by rw [← hW2]; simp
  have hy : Has W2 w.heap.size [.func (.yield Z.l) #[] #[]] 122 := by rw [← hW2]; exact (Has.new w _ _).alloc _
  have hl : Has W2 (w.heap.size + 1) [.string ⟨#[]⟩] 9 := by rw [← hW2]; exact Has.lit (by simp)
  have lG := fun k hk => okG.lt _ _ _ k g1 hk
  have lZ := fun k hk => okZ.lt _ _ _ k g2 hk
  have hNl : ¬ Z.N (w.heap.size + 1) := fun hn => by have := lZ _ (.inr hn); omega
  have hNe : w.heap.size + 1 ≠ w.heap.size := by omega
  have hJ : Jt G (Z.via (w.heap.size + 1) w.heap.size) w C a (⟨#[]⟩, s) W2 := by
    refine ⟨⟨Fg, fun k => Fz k ∨ k = w.heap.size + 1, okG.keep _ _ _ _ _ g1 hma (fun _ _ h => h), ⟨⟨Fz, okZ.keep _ _ _ _ _ g2 hma (fun _ _ h => h), fun _ => Iff.rfl, fun hf => by have := lZ _ (.inl hf); omega, fun hf => by have := lZ _ (.inl hf); omega⟩, hl, hy⟩, fun k hk => ⟨?_, ?_, (g3 k hk).2.2⟩, fun k hk => ⟨?_, ?_⟩, fun k hk => Nat.lt_of_lt_of_le (g5 k hk) hma.size⟩, fun k hk => lG k (.inr hk)⟩
    · rintro (e | e)
      · exact (g3 k hk).1 e
      · have := lG k (.inl hk); omega
    · rintro (e | e)
      · have := lG k (.inl hk); omega
      · exact (g3 k hk).2.1 e
    · rcases hk with hk | hk
      · exact (g4 k hk).1
      · intro hn; have := lG k (.inr hn); omega
    · rcases hk with hk | hk
      · exact (g4 k hk).2
      · intro hn; have := g5 k hn; omega
  have hw := walk0_calls okG (via_ok okZ hNl hNe) hob lo hi C root a (⟨#[]⟩, s) W2 hJ hrd ha hc hma.size
  unfold WalkPost at hw
  unfold iterS
  change Calls Tryd.prog 73 #[.func (.func G.ks) #[] G.caps, .agg #[.string ⟨#[]⟩, .string root, .int .i64 0], .int .i64 (-1), .string lo, .string hi, .func (.func 74) #[] #[.pointer (some ⟨w.heap.size + 1, 0, none⟩), .pointer (some ⟨w.heap.size, 0, none⟩)]] W2
    (fun e w' => e = .returned (.bool (walkS (stepB Z.step) objs lo hi 30 (-1) (link0 root) (a, (⟨#[]⟩, s))).1) ∧ Jt G (Z.via (w.heap.size + 1) w.heap.size) w C (walkS (stepB Z.step) objs lo hi 30 (-1) (link0 root) (a, (⟨#[]⟩, s))).2.1 (walkS (stepB Z.step) objs lo hi 30 (-1) (link0 root) (a, (⟨#[]⟩, s))).2.2 w' ∧ Mod (fun g => ¬ C g) W2 w') at hw
  generalize walkS (stepB Z.step) objs lo hi 30 (-1) (link0 root) (a, (⟨#[]⟩, s)) = T at *
  have HW := Lib.hid hw
  have HM := Lib.hid hma
  have HS := Lib.hid hW2
  have x0 : ((w.alloc (.cells #[.func (.yield Z.l) #[] #[]] 122)).alloc (.cells #[.string ⟨#[]⟩] 9)).cell? ⟨b0, 0, none⟩ = some (.func (.func G.ks) #[] G.caps) := by rw [hW2]; exact (h0.keep hma (fun h => h)).cell (o := 0) rfl
  have x1 : ((w.alloc (.cells #[.func (.yield Z.l) #[] #[]] 122)).alloc (.cells #[.string ⟨#[]⟩] 9)).cell? ⟨b1, 0, none⟩ = some (.string root) := by rw [hW2]; exact (h1.keep hma (fun h => h)).cell (o := 0) rfl
  have x2 : ((w.alloc (.cells #[.func (.yield Z.l) #[] #[]] 122)).alloc (.cells #[.string ⟨#[]⟩] 9)).cell? ⟨b2, 0, none⟩ = some (.string lo) := by rw [hW2]; exact (h2.keep hma (fun h => h)).cell (o := 0) rfl
  have x3 : ((w.alloc (.cells #[.func (.yield Z.l) #[] #[]] 122)).alloc (.cells #[.string ⟨#[]⟩] 9)).cell? ⟨b3, 0, none⟩ = some (.string hi) := by rw [hW2]; exact (h3.keep hma (fun h => h)).cell (o := 0) rfl
  clear hw hma hsz hy hl hNl hJ lG lZ g1 g2 g3 g4 g5 h0 h1 h2 h3 hW2
  subst W2
  go_enter Tryd.func72, Tryd.ntmps72
  go_wp2_with fail
  refine HW.out.mono ?_
  rintro e w5 ⟨rfl, ⟨⟨Fg', Fy, j1, ⟨⟨Fz', j2, j3, j4, j5⟩, _, _⟩, j6, j7, j8⟩, _⟩, hm5⟩
  go_wp2_with fail
  go_end0
  exact ⟨⟨_, rfl⟩, ⟨⟨Fg', Fz', j1, j2, fun k hk => ⟨fun hf => (j6 k hk).1 ((j3 k).2 (.inl hf)), fun hn => (j6 k hk).2.1 (.inr hn), (j6 k hk).2.2⟩, fun k hk => j7 k ((j3 k).2 (.inl hk)), j8⟩⟩, Mod.trans (HM.out.mono fun _ _ h => h.elim) hm5 (fun _ _ h => h)⟩
end Prolly
end Go.Proofs.YtpoljpjcmigobaaDoor
/- A loop over an iterator is one who is told. -/
namespace Go.Proofs.YtpoljpjcmigobaaDoor
set_option linter.unusedVariables false
set_option linter.unusedSimpArgs false
open Go.RowKit K Wire
namespace Prolly
open Go.Proofs.YtpoljpjcmigobaaDoor.Obj Go.Proofs.YtpoljpjcmigobaaDoor.Blob

/-- a loop: its record l, the block D of its rounds' deferred calls; its body turns what F lists -/
def loopZ {σ : Type} (l D : Nat) (rc : LoopState → Option Code → Loop) (N : Nat → Prop) (I : σ → (Nat → Prop) → World → Prop) (step : σ → Pair → Int → Option Code × σ) (cnt : σ → Nat) : Zf (σ × Option Code) where
  l := l
  N := fun k => k = D ∨ N k
  I := fun s F W => ∃ Fu, I s.1 Fu W ∧ (∀ k, F k ↔ Fu k ∨ k = l) ∧ ¬ Fu l ∧ ¬ Fu D ∧ W.heap[l]? = some (.loop (rc (stOf s.2) s.2)) ∧ W.heap[D]? = some (.deferred (some []))
  step := fun s p e => ((step s.1 p e).1.isNone, (step s.1 p e).2, (step s.1 p e).1)
  cnt := fun s => cnt s.1
  ready := fun s => s.2 = none
theorem heap_lt {w : World} {k : Nat} {o : Go.Obj} (h : w.heap[k]? = some o) : k < w.heap.size := (Array.getElem?_eq_some_iff.1 h).1
theorem loopZ_ok {σ : Type} {l D : Nat} {fn : FuncId} {tmps : Array Value} {ps : Array Tmp} {assign body : Code} {N : Nat → Prop} {I : σ → (Nat → Prop) → World → Prop} {step : σ → Pair → Int → Option Code × σ} {cnt : σ → Nat}
    (hlD : l ≠ D) (hNl : ¬ N l) (hps : ps.size = 2)
    (keep : ∀ s F w w' S, I s F w → Mod S w w' → (∀ k, F k ∨ N k → ¬ S k) → I s F w') (lt : ∀ s F w k, I s F w → F k ∨ N k → k < w.heap.size)
    (hcnt : ∀ s p, (step s p 0).1 = none → cnt (step s p 0).2 ≤ cnt s + 1)
    (hbody : ∀ m s Fu W k v e, I s Fu W → cnt s ≤ 1000000 → ¬ Fu l → ¬ Fu D → l < W.heap.size →
      assign.wpIn (Fence.wide.inRound l) m Tryd.prog (Exit.then (fun a₁ w₁ => Mod (fun _ => False) W w₁ ∧ ∀ o : Go.Obj, body.wpIn (Fence.wide.inRound l) m Tryd.prog (fun e' _ w₃ => exitOf e' = some (step s ⟨k, v⟩ e).1 ∧
        ∃ F', I (step s ⟨k, v⟩ e).2 F' w₃ ∧ Mod Fu (w₁.putObj l o) w₃ ∧ ∀ g, F' g → Fu g ∨ W.heap.size ≤ g) a₁ (w₁.putObj l o)) (fun _ _ _ => False))
        { tmps := (ps.zip #[.agg #[.string k, .string v], .int .i64 e]).foldl (fun t (p, v) => t.setIfInBounds p v) tmps, defers := [] } W) :
    ZfOk (loopZ l D (recL fn tmps ps assign body D) N I step cnt) where
  keep := fun s F w w' S h m hs => by
    obtain ⟨Fu, h1, h2, h3, h4, h5, h6⟩ := h
    exact ⟨Fu, keep _ _ _ _ _ h1 m (fun k hk => hs k (hk.elim (fun h => .inl ((h2 k).2 (.inl h))) (fun h => .inr (.inr h)))), h2, h3, h4, (m.block _ (heap_lt h5) (hs l (.inl ((h2 l).2 (.inr rfl))))).trans h5, (m.block _ (heap_lt h6) (hs D (.inr (.inl rfl)))).trans h6⟩
  lt := fun s F w k h hk => by
    obtain ⟨Fu, h1, h2, h3, h4, h5, h6⟩ := h
    rcases hk with hk | hk | hk
    · rcases (h2 k).1 hk with e | e
      · exact lt _ _ _ _ h1 (.inl e)
      · subst e; exact heap_lt h5
    · subst hk; exact heap_lt h6
    · exact lt _ _ _ _ h1 (.inr hk)
  rdy := fun s p _ h => by
    change (step s.1 p 0).1.isNone = true at h
    show (step s.1 p 0).1 = none
    cases hx : (step s.1 p 0).1 with
    | none => rfl
    | some c => rw [hx] at h; cases h
  cnt1 := fun s p h => by
    change (step s.1 p 0).1.isNone = true at h
    show cnt (step s.1 p 0).2 ≤ cnt s.1 + 1
    refine hcnt _ _ ?_
    cases hx : (step s.1 p 0).1 with
    | none => rfl
    | some c => rw [hx] at h; cases h
  call := fun s F W k v e m h hr hc => by
    obtain ⟨s, pe⟩ := s
    obtain rfl : pe = none := hr
    obtain ⟨Fu, h1, h2, h3, h4, h5, h6⟩ := h
    dsimp only at h1 h5
    refine round_of (D := D) h5 (by simp [hps]) (wpIn_mono (hbody m s Fu W k v e h1 hc h3 h4 (heap_lt h5)) ?_)
    rintro x a₁ w₁ hq
    cases x with
    | normal =>
      obtain ⟨hm1, hb⟩ := hq
      refine ⟨(hm1.block l (heap_lt h5) (fun h => h)).trans h5, wpIn_mono (hb _) ?_⟩
      rintro x a₂ w₃ ⟨he, F', g1, g2, g3⟩
      have hl1 : l < w₁.heap.size := Nat.lt_of_lt_of_le (heap_lt h5) hm1.size
      have hl3 : w₃.heap[l]? = some (.loop (recL fn tmps ps assign body D .busy none)) := (g2.block l (by rw [World.putObj_size]; exact hl1) h3).trans (World.putObj_heap_same hl1)
      have hlF : ¬ F' l := fun hf => (g3 l hf).elim h3 (fun h => by have := heap_lt h5; omega)
      have hDF : ¬ F' D := fun hf => (g3 D hf).elim h4 (fun h => by have := heap_lt h6; omega)
      have hd1 : D < w₁.heap.size := Nat.lt_of_lt_of_le (heap_lt h6) hm1.size
      have hd3 : w₃.heap[D]? = some (.deferred (some [])) := ((g2.block D (by rw [World.putObj_size]; exact hd1) h4).trans (World.putObj_heap_other (Ne.symm hlD))).trans ((hm1.block D (heap_lt h6) (fun h => h)).trans h6)
      have hmp := (Mod.refl (fun g => g = l) w₃).putObj (.inl rfl) (.loop (recL fn tmps ps assign body D (stOf (step s ⟨k, v⟩ e).1) (step s ⟨k, v⟩ e).1))
      refine ⟨(step s ⟨k, v⟩ e).1, he, hl3, rfl, fun g => F' g ∨ g = l, ⟨F', keep _ _ _ _ _ g1 hmp (fun g hg e => by subst e; exact hg.elim hlF hNl), fun _ => Iff.rfl, hlF, hDF, World.putObj_heap_same (heap_lt hl3), (World.putObj_heap_other (Ne.symm hlD)).trans hd3⟩, ?_, ?_⟩
      · refine Mod.trans (Mod.trans ((hm1.mono (S' := F) fun _ _ h => h.elim).putObj (.inl ((h2 l).2 (.inr rfl))) _) g2 (fun g _ hg => (h2 g).2 (.inl hg))) hmp (fun g _ e => (h2 g).2 (.inr e))
      · rintro g (hg | rfl)
        · rcases g3 g hg with e | e
          · exact .inl ((h2 g).2 (.inl e))
          · exact .inr e
        · exact .inl ((h2 _).2 (.inr rfl))
    | exit id => exact hq.elim
    | goto t => exact hq.elim
    | ret => exact hq.elim
    | panic c => exact hq.elim
    | outgrown => exact hq.elim
/-- the loop's own step, as the iterator sees it -/
def toldS {σ : Type} (step : σ → Pair → Int → Option Code × σ) (s : σ × Option Code) (p : Pair) (e : Int) : Bool × (σ × Option Code) := ((step s.1 p e).1.isNone, (step s.1 p e).2, (step s.1 p e).1)
theorem loop_iter {σ : Type} {G : Gf} {objs : List Ob} (okG : GfOk G objs) (hob : ObsOk objs) (root lo hi : ByteArray) {C : Nat → Prop} {a : List ByteArray} {s : σ} {w : World} {fn : FuncId} {tmps : Array Value} {ps : Array Tmp} {assign body : Code}
    {I : σ → (Nat → Prop) → World → Prop} {step : σ → Pair → Int → Option Code × σ} {cnt : σ → Nat}
    (hps : ps.size = 2)
    (keep : ∀ s F w w' S, I s F w → Mod S w w' → (∀ k, F k ∨ False → ¬ S k) → I s F w') (lt : ∀ s F w k, I s F w → F k ∨ False → k < w.heap.size)
    (hcnt : ∀ s p, (step s p 0).1 = none → cnt (step s p 0).2 ≤ cnt s + 1)
    {Fg Fu : Nat → Prop} (hG : G.I a Fg w) (hI : I s Fu w) (hap : ∀ k, Fg k → ¬ Fu k ∧ ¬ C k) (haq : ∀ k, Fu k → ¬ G.N k ∧ ¬ C k) (hC : ∀ k, C k → k < w.heap.size) (ha : a.length ≤ 800000) (hc : cnt s ≤ 800000) (b0 b1 b2 b3 : Nat)
    (h0 : Has w b0 [.func (.func G.ks) #[] G.caps] 35) (h1 : Has w b1 [.string root] 9) (h2 : Has w b2 [.string lo] 9) (h3 : Has w b3 [.string hi] 9)
    (hbody : ∀ m s Fu W k v e, I s Fu W → cnt s ≤ 1000000 → ¬ Fu (w.heap.size + 1) → w.heap.size + 1 < W.heap.size →
      assign.wpIn (Fence.wide.inRound (w.heap.size + 1)) m Tryd.prog (Exit.then (fun a₁ w₁ => Mod (fun _ => False) W w₁ ∧ ∀ o : Go.Obj, body.wpIn (Fence.wide.inRound (w.heap.size + 1)) m Tryd.prog (fun e' _ w₃ => exitOf e' = some (step s ⟨k, v⟩ e).1 ∧
        ∃ F', I (step s ⟨k, v⟩ e).2 F' w₃ ∧ Mod Fu (w₁.putObj (w.heap.size + 1) o) w₃ ∧ ∀ g, F' g → Fu g ∨ W.heap.size ≤ g) a₁ (w₁.putObj (w.heap.size + 1) o)) (fun _ _ _ => False))
        { tmps := (ps.zip #[.agg #[.string k, .string v], .int .i64 e]).foldl (fun t (p, v) => t.setIfInBounds p v) tmps, defers := [] } W) :
    Calls Tryd.prog 72 (#[.func (.yield (w.heap.size + 1)) #[] #[]] ++ #[.pointer (some ⟨b0, 0, none⟩), .pointer (some ⟨b1, 0, none⟩), .pointer (some ⟨b2, 0, none⟩), .pointer (some ⟨b3, 0, none⟩)]) (loopW w fn tmps ps assign body) fun e W2 =>
      ∃ v a' s' pe Fg' Fu', e = .returned v ∧ iterS (toldS step) objs lo hi root a (s, none) = (a', s', pe) ∧ W2.heap[w.heap.size + 1]? = some (.loop (recL fn tmps ps assign body w.heap.size (stOf pe) pe)) ∧ W2.heap[w.heap.size]? = some (.deferred (some [])) ∧
        G.I a' Fg' W2 ∧ I s' Fu' W2 ∧ ¬ Fu' (w.heap.size + 1) ∧ ¬ Fu' w.heap.size ∧ (∀ k, Fg' k → ¬ Fu' k ∧ ¬ C k ∧ k ≠ w.heap.size ∧ k ≠ w.heap.size + 1) ∧ (∀ k, Fu' k → ¬ G.N k ∧ ¬ C k) ∧ Mod (fun g => ¬ C g) w W2 := by
  obtain ⟨f1, f2, f3, f4⟩ := loopW_facts w fn tmps ps assign body
  have okZ : ZfOk (loopZ (w.heap.size + 1) w.heap.size (recL fn tmps ps assign body w.heap.size) (fun _ => False) I step cnt) :=
    loopZ_ok (by omega) (fun h => h) hps keep lt hcnt (fun m s Fu W k v e h1 h2 h3 _ h5 => hbody m s Fu W k v e h1 h2 h3 h5)
  have lF := fun k hk => lt _ _ _ k hI hk
  have lG := fun k hk => okG.lt _ _ _ k hG hk
  have hJ : Jz G (loopZ (w.heap.size + 1) w.heap.size (recL fn tmps ps assign body w.heap.size) (fun _ => False) I step cnt) C a (s, none) (loopW w fn tmps ps assign body) := by
    refine ⟨⟨Fg, fun k => Fu k ∨ k = w.heap.size + 1, okG.keep _ _ _ _ _ hG f3 (fun _ _ h => h), ⟨Fu, keep _ _ _ _ _ hI f3 (fun _ _ h => h), fun _ => Iff.rfl, fun hf => by have := lF _ (.inl hf); omega, fun hf => by have := lF _ (.inl hf); omega, f1, f2⟩, fun k hk => ⟨?_, ?_, (hap k hk).2⟩, fun k hk => ⟨?_, ?_⟩, fun k hk => Nat.lt_of_lt_of_le (hC k hk) f3.size⟩⟩
    · rintro (e | e)
      · exact (hap k hk).1 e
      · have := lG k (.inl hk); omega
    · rintro (e | e)
      · have := lG k (.inl hk); omega
      · exact e
    · rcases hk with hk | hk
      · exact (haq k hk).1
      · intro hn; have := lG k (.inr hn); omega
    · rcases hk with hk | hk
      · exact (haq k hk).2
      · intro hn; have := hC k hn; omega
  refine (iter_calls okG okZ hob root lo hi hJ rfl ha hc b0 b1 b2 b3 (h0.keep f3 (fun h => h)) (h1.keep f3 (fun h => h)) (h2.keep f3 (fun h => h)) (h3.keep f3 (fun h => h))).mono ?_
  rintro e W2 ⟨⟨v, rfl⟩, ⟨⟨Fg', Fz, g1, ⟨Fu', g2, g3, g4, g5, g6, g7⟩, g8, g9, g10⟩⟩, hm⟩
  refine ⟨v, _, _, _, Fg', Fu', rfl, rfl, g6, g7, g1, g2, g4, g5, fun k hk => ⟨fun hf => (g8 k hk).1 ((g3 k).2 (.inl hf)), (g8 k hk).2.2, fun e => (g8 k hk).2.1 (.inl e), fun e => (g8 k hk).1 ((g3 k).2 (.inr e))⟩, fun k hk => g9 k ((g3 k).2 (.inl hk)), Mod.trans (f3.mono fun _ _ h => h.elim) hm (fun _ _ h => h)⟩
end Prolly
end Go.Proofs.YtpoljpjcmigobaaDoor
/- prolly's List. -/
namespace Go.Proofs.YtpoljpjcmigobaaDoor
set_option linter.unusedVariables false
set_option linter.unusedSimpArgs false
open Go.RowKit K Wire
namespace Prolly
open Go.Proofs.YtpoljpjcmigobaaDoor.Obj Go.Proofs.YtpoljpjcmigobaaDoor.Blob
attribute [local go_sem] Oper.semAt_some

/-- List's loop: what has come; the error -/
def stepL (s : List Pair × Int) (p : Pair) (f : Int) : Option Code × (List Pair × Int) := if f ≠ 0 then (some .ret, (s.1, f)) else (none, (s.1 ++ [p], s.2))
def liI (B : Nat) (s : List Pair × Int) (F : Nat → Prop) (W : World) : Prop :=
  ∃ vo, Has W B [.slice none 0 0] 22 ∧ Has W (B + 1) [.int .i64 s.2] 26 ∧ Has W (B + 2) [vo] 22 ∧ W.ownsRow B 48 2 vo s.1.length (s.1.flatMap kc) ∧
    F = fun k => k = B ∨ k = B + 1 ∨ k = B + 2 ∨ vo.ownBlock = some k
theorem liI_keep {B : Nat} : ∀ s F w w' S, liI B s F w → Mod S w w' → (∀ k, F k ∨ False → ¬ S k) → liI B s F w' := by
  rintro s F w w' S ⟨vo, h1, h2, h3, h4, rfl⟩ m hs
  exact ⟨vo, h1.keep m (hs _ (.inl (.inl rfl))), h2.keep m (hs _ (.inl (.inr (.inl rfl)))), h3.keep m (hs _ (.inl (.inr (.inr (.inl rfl))))), own_keep h4 m (fun k _ hk => hs k (.inl (.inr (.inr (.inr hk))))), rfl⟩
theorem liI_lt {B : Nat} : ∀ s F w k, liI B s F w → F k ∨ False → k < w.heap.size := by
  rintro s F w k ⟨vo, h1, h2, h3, h4, rfl⟩ ((rfl | rfl | rfl | hk) | hk)
  · exact h1.lt
  · exact h2.lt
  · exact h3.lt
  · exact (h4.lt k hk).2
  · exact hk.elim
/-- what List's loop comes to, is the reference's list -/
theorem li_agrees : Agrees (stepB (toldS stepL))
    (fun x s => x.bad = 0 ∧ s.2.1.1 = x.out ∧ s.1 = lastO x.out ∧ s.2.2 = none) (fun x s => s.2.2 = some .ret ∧ s.2.1.2 = x.bad) where
  ok := fun x s h => h.1
  ask := fun x s id h => h
  pair := by
    rintro x ⟨last, ⟨out, e9⟩, pe⟩ p ⟨hb, ho, hl, hp⟩ hk
    dsimp only at ho hl hp
    subst ho hl hp
    have e1 : putP x p = if x.out ≠ [] ∧ ltS (lastO x.out) p.key = false then { x with bad := 122 } else { x with out := x.out ++ [p] } := by unfold putP; rw [if_neg (by simpa using hb)]
    rw [e1]
    unfold stepB
    dsimp only
    by_cases hc : x.out ≠ [] ∧ ltS (lastO x.out) p.key = false
    · rw [if_pos hc, if_neg (show ¬ ({ x with bad := 122 } : LS).bad = 0 by simp), if_pos (⟨rfl, hc.2⟩ : (0 : Int) = 0 ∧ ltS (lastO x.out) p.key = false)]
      simp [toldS, stepL]
    · have hlt : ltS (lastO x.out) p.key = true := by
        by_cases hn : x.out = []
        · rw [hn]; exact ltS_empty p.key hk
        · cases h5 : ltS (lastO x.out) p.key with
          | true => rfl
          | false => exact absurd ⟨hn, h5⟩ hc
      rw [if_neg hc, if_pos (show ({ x with out := x.out ++ [p] } : LS).bad = 0 from hb), if_neg (show ¬ ((0 : Int) = 0 ∧ ltS (lastO x.out) p.key = false) by rw [hlt]; simp)]
      simp [toldS, stepL, hb, lastO]
  err := by
    rintro x ⟨last, ⟨out, e9⟩, pe⟩ e ⟨hb, ho, hl, hp⟩ he
    unfold stepB
    rw [if_neg (fun h => he h.1)]
    simp [toldS, stepL, he]
theorem li_list (objs : List Ob) (lo hi root : ByteArray) {a' : List ByteArray} {out : List Pair} {e : Int} {pe : Option Code}
    (h : iterS (toldS stepL) objs lo hi root [] (([], 0), none) = (a', (out, e), pe)) :
    a' = (listL objs lo hi root).2.1 ∧ ((pe = none ∧ out = (listL objs lo hi root).1 ∧ (listL objs lo hi root).2.2 = 0) ∨ (pe = some .ret ∧ e = (listL objs lo hi root).2.2 ∧ (listL objs lo hi root).1 = [])) := by
  obtain ⟨h1, h2⟩ := walk_agrees li_agrees objs lo hi 30 (-1) (link0 root) ⟨[], [], 0⟩ (⟨#[]⟩, ([], 0), none) ⟨rfl, rfl, rfl, rfl⟩
  unfold iterS at h
  have hr : goesS objs lo hi 30 (-1) (link0 root) ⟨[], [], 0⟩ = goesR objs lo hi root := rfl
  rw [hr] at h1 h2
  simp only [Prod.mk.injEq] at h
  obtain ⟨rfl, h3⟩ := h
  refine ⟨h2, ?_⟩
  unfold Out at h1
  unfold listL
  by_cases hb : (goesR objs lo hi root).bad = 0
  · rw [if_pos hb] at h1 ⊢
    obtain ⟨_, _, k2, _, k4⟩ := h1
    rw [h3] at k2 k4
    exact .inl ⟨k4, k2, hb⟩
  · rw [if_neg hb] at h1 ⊢
    obtain ⟨_, k1, k2⟩ := h1
    rw [h3] at k1 k2
    exact .inr ⟨k1, k2, rfl⟩
end Prolly
end Go.Proofs.YtpoljpjcmigobaaDoor
/- The walk of prolly's List. -/
namespace Go.Proofs.YtpoljpjcmigobaaDoor
set_option linter.unusedVariables false
set_option linter.unusedSimpArgs false
open Go.RowKit K Wire
namespace Prolly
open Go.Proofs.YtpoljpjcmigobaaDoor.Obj Go.Proofs.YtpoljpjcmigobaaDoor.Blob
attribute [local go_sem] Oper.semAt_some

def LiPost (G : Gf) (w0 : World) (C : Nat → Prop) (R : List Pair × List ByteArray × Int) (w : World) (e : Ending) (w' : World) : Prop :=
  ∃ v, e = .returned (.tuple #[v, .int .i64 R.2.2]) ∧ w'.ownsRow w.heap.size 48 2 v R.1.length (R.1.flatMap kc) ∧ Gs G w0 (fun g => C g ∨ v.ownBlock = some g) R.2.1 w' ∧ Mod (fun g => ¬ C g) w w'
set_option maxRecDepth 100000 in
set_option maxHeartbeats 4000000 in
theorem pList_calls {G : Gf} {objs : List Ob} (okG : GfOk G objs) (hob : ObsOk objs) {w0 : World} {C : Nat → Prop} (root lo hi : ByteArray) (w : World) (hG : Gs G w0 C [] w) (h0 : w0.heap.size ≤ w.heap.size) :
    Calls Tryd.prog 19 #[.func (.func G.ks) #[] G.caps, .string root, .string lo, .string hi] w (LiPost G w0 C (listL objs lo hi root) w) := by
  unfold LiPost
  refine (callsIn_wide (n := 3)).1 ?_
  refine callsIn_of_wp_marks Tryd.func19 rfl trivial ?_
  simp only [Tryd.ntmps19, List.size_toArray, List.length_cons, List.length_nil, Nat.reduceAdd, Nat.reduceSub, Array.replicate_succ, Array.replicate_zero, List.push_toArray, List.append_toArray, List.nil_append, List.cons_append]
  refine wpIn_wide.2 ?_
  go_wp2_with fail
  refine (between_calls _ _ _ _ _ _).mono ?_
  rintro e w2 ⟨rfl, rfl⟩
  go_wp2_with fail
  obtain ⟨Wa, hWa⟩ : ∃ Wa, ((w.alloc (.cells #[.slice none 0 0] 22)).alloc (.cells #[.int .i64 0] 26)).alloc (.cells #[.slice none 0 0] 22) = Wa := ⟨_, rfl⟩
  have c0 : Has Wa w.heap.size [.slice none 0 0] 22 := by rw [← hWa]; exact ((Has.new w _ _).alloc _).alloc _
  have c1 : Has Wa (w.heap.size + 1) [.int .i64 0] 26 := by rw [← hWa]; exact (Has.lit (by simp) : Has _ _ _ _).alloc _
  have c2 : Has Wa (w.heap.size + 2) [.slice none 0 0] 22 := by rw [← hWa]; exact Has.lit (by simp)
  have hm1 : Mod (fun _ => False) w Wa := by rw [← hWa]; exact (((Mod.refl _ w).alloc _).alloc _).alloc _
  have hz : Wa.heap.size = w.heap.size + 3 := by rw [← hWa]; simp
  rw [hWa]
  obtain ⟨k0, k1, k2, k3, k4, k5⟩ := betW_has G.ks G.caps root lo hi Wa
  obtain ⟨⟨Fg, g1, g2⟩, g3⟩ := hG
  have lG := fun k hk => okG.lt _ _ _ k g1 hk
  have hM := Mod.trans hm1 k4 (fun _ _ h => h)
  have hI : liI w.heap.size ([], 0) (fun k => k = w.heap.size ∨ k = w.heap.size + 1 ∨ k = w.heap.size + 2 ∨ (Value.slice none 0 0).ownBlock = some k) (betW G.ks G.caps root lo hi Wa) :=
    ⟨_, c0.keep k4 (fun h => h), c1.keep k4 (fun h => h), c2.keep k4 (fun h => h), World.ownsRow_nil _ _ _ _, rfl⟩
  refine range_of (gf := 72) rfl (fun args w => by kernel_rfl) ?_
  intro fn
  refine (loop_iter (I := liI w.heap.size) (step := stepL) (cnt := fun s => s.1.length) okG hob root lo hi (C := C) (a := []) (s := ([], 0)) rfl liI_keep liI_lt ?cnt (okG.keep _ _ _ _ _ g1 hM (fun _ _ h => h)) hI ?ap ?aq ?hc (by simp) (by simp) _ _ _ _ k0 k1 k2 k3 ?body).mono ?after
  case cnt =>
    intro s p h
    simp [stepL]
  case ap =>
    intro k hk
    have := lG k (.inl hk)
    refine ⟨?_, fun hc => (g2 k hc).2 hk⟩
    rintro (h | h | h | h)
    · omega
    · omega
    · omega
    · cases h
  case aq =>
    rintro k (h | h | h | h)
    · exact ⟨fun hn => by have := lG k (.inr hn); omega, fun hn => by have := (g2 k hn).1; omega⟩
    · exact ⟨fun hn => by have := lG k (.inr hn); omega, fun hn => by have := (g2 k hn).1; omega⟩
    · exact ⟨fun hn => by have := lG k (.inr hn); omega, fun hn => by have := (g2 k hn).1; omega⟩
    · cases h
  case hc =>
    intro k hk
    have := (g2 k hk).1
    omega
  case body =>
    intro m s Fu W k v e hI hc hl hlt
    obtain ⟨vo, a1, a2, a3, a4, rfl⟩ := hI
    rw [k5, hz] at hl hlt ⊢
    have hbs : w.heap.size ≤ W.heap.size := Nat.le_of_lt a1.lt
    generalize w.heap.size + 3 + 4 + 1 = l at hl hlt ⊢
    generalize w.heap.size = B at a1 a2 a3 a4 hl hbs ⊢
    clear hI hM lG g1 g2 g3 k0 k1 k2 k3 k4 k5 hz hm1 c0 c1 c2 hWa h0 fn
    gi_wp2
    refine ⟨(Mod.refl _ W).alloc _, fun o => ?_⟩
    obtain ⟨W2, hW2⟩ : ∃ W2, (W.alloc (.cells #[.string k, .string v] 48)).putObj l o = W2 := ⟨_, rfl⟩
    have hm2 : Mod (fun g => g = l) W W2 := by rw [← hW2]; exact ((Mod.refl (fun g => g = l) W).alloc _).putObj (.inl rfl) _
    have hz2 : W2.heap.size = W.heap.size + 1 := by rw [← hW2]; simp
    have hp : Has W2 W.heap.size [.string k, .string v] 48 := by rw [← hW2]; exact (Has.new W _ _).keep ((Mod.refl (fun g => g = l) _).putObj (.inl rfl) _) (by omega)
    have d1 := a1.keep hm2 (fun e => hl (by subst e; exact .inl rfl))
    have d2 := a2.keep hm2 (fun e => hl (by subst e; exact .inr (.inl rfl)))
    have d3 := a3.keep hm2 (fun e => hl (by subst e; exact .inr (.inr (.inl rfl))))
    have d4 := own_keep a4 hm2 (fun g _ hg e => hl (by subst e; exact .inr (.inr (.inr hg))))
    rw [hW2]
    have p0 := hp.cell (o := 0) rfl
    have p1 := hp.cell (o := 1) rfl
    have x1 := d1.cell (o := 0) rfl
    have x2 := d2.cell (o := 0) rfl
    have x3 := d3.cell (o := 0) rfl
    have y1 := d1.frozen 0
    have y2 := d2.frozen 0
    have y3 := d3.frozen 0
    have D1 := Lib.hid d1
    have D2 := Lib.hid d2
    have D3 := Lib.hid d3
    have D4 := Lib.hid d4
    clear a1 a2 a3 a4 d1 d2 d3 d4 hm2 hp hW2
    by_cases he : e = 0
    · have hs : stepL s ⟨k, v⟩ e = (none, (s.1 ++ [⟨k, v⟩], s.2)) := by simp [stepL, he]
      rw [hs]
      subst he
      gi_wp2_with (gi_at_builtin; refine appG_in (.tmp 23) (.tmp 25) pair_t B vo s.1.length (s.1.flatMap kc) (D4.out.alloc _) ⟨W.heap.size + 1, 0, none⟩ 1 1 [.string k, .string v] rfl rfl rfl rfl rfl (cells_lit (w := W2) hz2) (by intro u hu; simp at hu; rcases hu with rfl | rfl <;> rfl) (by omega) (by unfold maxLen; omega) (by simp; omega) ?_)
      intro v5 w5 ho5 hm5 hr5
      obtain ⟨A5, c5, rfl, _, _, _, _⟩ := own_cells ho5
      have n1 : vo.ownBlock ≠ some B := fun e => absurd rfl (cell_of_has D1.out D4.out e (by decide))
      have n2 : vo.ownBlock ≠ some (B + 1) := fun e => absurd rfl (cell_of_has D2.out D4.out e (by decide))
      have n3 : vo.ownBlock ≠ some (B + 2) := fun e => absurd rfl (cell_of_has D3.out D4.out e (by decide))
      have e1 := (D1.out.alloc (.cells #[.string k, .string v] 48)).keep hm5 n1
      have e2 := (D2.out.alloc (.cells #[.string k, .string v] 48)).keep hm5 n2
      have e3 := (D3.out.alloc (.cells #[.string k, .string v] 48)).keep hm5 n3
      have z3 := e3.cell (o := 0) rfl
      have f3 := e3.frozen 0
      gi_wp2
      have hms := (Mod.refl (fun g => g = B + 2) w5).set1 rfl 0 (.slice A5 (s.1.length + 1) c5)
      refine ⟨rfl, _, ⟨_, e1.keep hms (by omega), e2.keep hms (by omega), e3.set 0 _, own_store (own_len (by simp) (by simp [kc]) ho5) e3 (by decide) 0 _, rfl⟩, ?_, ?_⟩
      · refine Mod.trans (((Mod.refl _ W2).alloc _)) (Mod.trans (hm5.mono (S' := fun g => g = B ∨ g = B + 1 ∨ g = B + 2 ∨ vo.ownBlock = some g) (fun _ _ h => .inr (.inr (.inr h)))) (hms.mono (S' := fun g => g = B ∨ g = B + 1 ∨ g = B + 2 ∨ vo.ownBlock = some g) (fun _ _ h => .inr (.inr (.inl h)))) (fun _ _ h => h)) (fun _ _ h => h)
      · rintro g (h | h | h | h)
        · exact .inl (.inl h)
        · exact .inl (.inr (.inl h))
        · exact .inl (.inr (.inr (.inl h)))
        · rcases hr5 g h with h | h
          · exact .inl (.inr (.inr (.inr h)))
          · right; simp at h; omega
    · have hs : stepL s ⟨k, v⟩ e = (some .ret, (s.1, e)) := by simp [stepL, he]
      have b1 : (e == 0) = false := by simpa using he
      rw [hs]
      gi_wp2
      have hma := (Mod.refl (fun g => g = B) W2).set1 rfl 0 (.slice none 0 0)
      have hmb := (Mod.refl (fun g => g = B + 1) (W2.setCell ⟨B, 0, none⟩ (.slice none 0 0))).set1 rfl 0 (.int .i64 e)
      have n1 : vo.ownBlock ≠ some B := fun e => absurd rfl (cell_of_has D1.out D4.out e (by decide))
      have n2 : vo.ownBlock ≠ some (B + 1) := fun e => absurd rfl (cell_of_has D2.out D4.out e (by decide))
      refine ⟨rfl, _, ⟨vo, (D1.out.set 0 _).keep hmb (by omega), (D2.out.keep hma (by omega)).set 0 _, (D3.out.keep hma (by omega)).keep hmb (by omega), own_keep (own_keep D4.out hma (fun g _ hg e => n1 (e ▸ hg))) hmb (fun g _ hg e => n2 (e ▸ hg)), rfl⟩, ?_, fun g h => .inl h⟩
      exact Mod.trans (hma.mono fun _ _ h => .inl h) hmb (fun _ _ h => .inr (.inl h))
  case after =>
    rintro e W2 ⟨v, a', ⟨out, e9⟩, pe, Fg', Fu', rfl, hit, hl, hD, hG', hI', n1, n2, hap, haq, hm⟩
    obtain ⟨ha', hcase⟩ := li_list objs lo hi root hit
    refine ⟨v, pe, rfl, hl, ?_⟩
    obtain ⟨vo, b1, b2, b3, b4, rfl⟩ := hI'
    obtain ⟨A5, c5, rfl, _, _, _, _⟩ := own_cells b4
    rw [k5, hz] at hl hD n1 n2 hap ⊢
    have hmM : Mod (fun g => ¬ C g) w W2 := Mod.trans (hM.mono fun _ _ h => h.elim) hm (fun _ _ h => h)
    generalize hW4 : W2.putObj (w.heap.size + 3 + 4 + 1) _ = W4
    have hm4 : Mod (fun g => g = w.heap.size + 3 + 4 + 1) W2 W4 := by rw [← hW4]; exact (Mod.refl (fun g => g = w.heap.size + 3 + 4 + 1) W2).putObj (.inl rfl) _
    clear hW4
    have d1 := b1.keep hm4 (by omega)
    have d2 := b2.keep hm4 (by omega)
    have d3 := b3.keep hm4 (by omega)
    have d4 := own_keep b4 hm4 (fun g _ hg e => n1 (by subst e; exact .inr (.inr (.inr hg))))
    have hdl : W4.heap[w.heap.size + 3 + 4]? = some (.deferred (some [])) := (hm4.block _ (heap_lt hD) (by omega)).trans hD
    have hG4 : G.I a' Fg' W4 := okG.keep _ _ _ _ _ hG' hm4 (fun g hg e => by subst e; exact hg.elim (fun hg => (hap _ hg).2.2.2 rfl) (fun hn => by have := lG _ (.inr hn); omega))
    have x1 := d1.cell (o := 0) rfl
    have x2 := d2.cell (o := 0) rfl
    have x3 := d3.cell (o := 0) rfl
    have y1 := d1.frozen 0
    have y2 := d2.frozen 0
    have y3 := d3.frozen 0
    have D1 := Lib.hid d1
    have D2 := Lib.hid d2
    have D3 := Lib.hid d3
    have D4 := Lib.hid d4
    have HD := Lib.hid hdl
    have HM := Lib.hid hmM
    have HG := Lib.hid hG4
    have HA := Lib.hid hap
    have HM4 := Lib.hid hm4
    have HC := Lib.hid g2
    have HN := Lib.hid g3
    have HQ := Lib.hid haq
    subst ha'
    clear d1 d2 d3 d4 hdl hmM hG4 hap haq hm4 g2 g3 b1 b2 b3 b4 hl hD n1 n2 hG' hm hI hM k0 k1 k2 k3 k4 k5 hz hm1 c0 c1 c2 hWa g1 lG hit
    rcases hcase with ⟨rfl, ho, hz0⟩ | ⟨rfl, he, ho⟩
    · subst ho
      unfold behindL
      simp only [Option.elim]
      go_wp2_with fail
      have hms := (((Mod.refl (fun g => g = w.heap.size ∨ g = w.heap.size + 1) W4).set1 (.inl rfl) 0 (.slice A5 (listL objs lo hi root).1.length c5)).set1 (.inr rfl) 0 (.int .i64 0))
      have hmp := (hms.mono (S' := fun g => (g = w.heap.size ∨ g = w.heap.size + 1) ∨ g = w.heap.size + 3 + 4) (fun _ _ h => .inl h)).putObj (.inl (.inr rfl)) (.deferred none)
      refine ⟨by simp, .inl ⟨_, _, rfl, run_takeDeferred ((hms.block _ (heap_lt HD.out) (by omega)).trans HD.out), ?_⟩⟩
      have q1 := ((D1.out.set 0 (.slice A5 (listL objs lo hi root).1.length c5)).keep ((Mod.refl (fun g => g = w.heap.size + 1) _).set1 rfl 0 (.int .i64 0)) (by omega)).keep ((Mod.refl (fun g => g = w.heap.size + 3 + 4) _).putObj (.inl rfl) (.deferred none)) (by omega)
      have q2 := ((D2.out.keep ((Mod.refl (fun g => g = w.heap.size) _).set1 rfl 0 (.slice A5 (listL objs lo hi root).1.length c5)) (by omega)).set 0 (.int .i64 0)).keep ((Mod.refl (fun g => g = w.heap.size + 3 + 4) _).putObj (.inl rfl) (.deferred none)) (by omega)
      have m1 : (Value.slice A5 (listL objs lo hi root).1.length c5).ownBlock ≠ some w.heap.size := fun e => absurd rfl (cell_of_has D1.out D4.out e (by decide))
      have m2 : (Value.slice A5 (listL objs lo hi root).1.length c5).ownBlock ≠ some (w.heap.size + 1) := fun e => absurd rfl (cell_of_has D2.out D4.out e (by decide))
      have m3 : (Value.slice A5 (listL objs lo hi root).1.length c5).ownBlock ≠ some (w.heap.size + 3 + 4) := fun e => by
        obtain ⟨cur, fr, hr⟩ := own_row D4.out e
        rw [HD.out] at hr; cases hr
      refine ⟨_, by simp [results, Tryd.results19, go_sem, q1.cell (o := 0) rfl, q2.cell (o := 0) rfl], _, rfl, own_keep D4.out hmp (fun g _ hg e => by rcases e with (e | e) | e; exact m1 (e ▸ hg); exact m2 (e ▸ hg); exact m3 (e ▸ hg)),
        ⟨⟨Fg', okG.keep _ _ _ _ _ HG.out hmp (fun g hg e => ?_), fun g hg => ⟨?_, fun hf => ?_⟩⟩, HN.out⟩, ?_⟩
      · have hb : g ≠ w.heap.size ∧ g ≠ w.heap.size + 1 ∧ g ≠ w.heap.size + 3 + 4 := by
          rcases hg with hg | hg
          · exact ⟨fun e => (HA.out g hg).1 (.inl e), fun e => (HA.out g hg).1 (.inr (.inl e)), (HA.out g hg).2.2.1⟩
          · have := HN.out g hg; omega
        rcases e with (e | e) | e
        · exact hb.1 e
        · exact hb.2.1 e
        · exact hb.2.2 e
      · rcases hg with hg | hg
        · have h1 := (HC.out g hg).1
          have h2 := hmp.size
          have h3 := D1.out.lt
          omega
        · exact Nat.lt_of_lt_of_le (D4.out.lt g hg).2 hmp.size
      · rcases hg with hg | hg
        · exact (HA.out g hf).2.1 hg
        · exact (HA.out g hf).1 (.inr (.inr (.inr hg)))
      · refine Mod.trans (Mod.trans HM.out HM4.out (fun i hi e => by omega)) hmp (fun i hi e => ?_)
        rcases e with (e | e) | e <;> omega
    · subst he
      unfold behindL
      simp only [Option.elim]
      go_wp2_with fail
      have hmp := (Mod.refl (fun g => g = w.heap.size + 3 + 4) W4).putObj (.inl rfl) (.deferred none)
      refine ⟨by simp, .inl ⟨_, _, rfl, run_takeDeferred HD.out, ?_⟩⟩
      have q1 := D1.out.keep hmp (by omega)
      have q2 := D2.out.keep hmp (by omega)
      refine ⟨.tuple #[.slice none 0 0, .int .i64 (listL objs lo hi root).2.2], by simp [results, Tryd.results19, go_sem, q1.cell (o := 0) rfl, q2.cell (o := 0) rfl], .slice none 0 0, rfl, World.ownsRow_nil _ _ _ _,
        ⟨⟨Fg', okG.keep _ _ _ _ _ HG.out hmp (fun g hg e => ?_), fun g hg => ⟨?_, fun hf => ?_⟩⟩, HN.out⟩, ?_⟩
      · rcases hg with hg | hg
        · exact (HA.out g hg).2.2.1 e
        · have := HN.out g hg; omega
      · rcases hg with hg | hg
        · have h1 := (HC.out g hg).1
          have h2 := hmp.size
          have h3 := D1.out.lt
          omega
        · cases hg
      · rcases hg with hg | hg
        · exact (HA.out g hf).2.1 hg
        · cases hg
      · exact Mod.trans (Mod.trans HM.out HM4.out (fun i hi e => by omega)) hmp (fun i hi e => by omega)
end Prolly
end Go.Proofs.YtpoljpjcmigobaaDoor
