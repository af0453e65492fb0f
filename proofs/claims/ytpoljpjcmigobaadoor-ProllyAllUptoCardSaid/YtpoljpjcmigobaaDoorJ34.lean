/- Joined texts: ProN, ProO, ProQ, ProR. -/
import Derived.Test.YtpoljpjcmigobaaDoorJ25
import Derived.Test.YtpoljpjcmigobaaDoorJ31
/- Who is told, together with who answers. -/
namespace Go.Proofs.YtpoljpjcmigobaaDoor
set_option linter.unusedVariables false
set_option linter.unusedSimpArgs false
open Go.RowKit K Wire
namespace Prolly
open Go.Proofs.YtpoljpjcmigobaaDoor.Obj Go.Proofs.YtpoljpjcmigobaaDoor.Blob

/-- who is told pairs: I s F w; F: the blocks that it may turn; N: the others that it needs -/
structure Yf (σ : Type) where
  ks : Nat
  caps : Array Value
  N : Nat → Prop
  I : σ → (Nat → Prop) → World → Prop
  step : σ → Pair → Int → Bool × σ
  cnt : σ → Nat
  ready : σ → Prop
structure YfOk {σ : Type} (Y : Yf σ) : Prop where
  keep : ∀ s F w w' S, Y.I s F w → Mod S w w' → (∀ k, F k ∨ Y.N k → ¬ S k) → Y.I s F w'
  lt : ∀ s F w k, Y.I s F w → F k ∨ Y.N k → k < w.heap.size
  enter : ∀ (w : World) (k v : ByteArray) (e : Int), (callFunc Y.ks (#[.agg #[.string k, .string v], .int .i64 e] ++ Y.caps)).run Tryd.prog w = .ok (.enter Y.ks (#[.agg #[.string k, .string v], .int .i64 e] ++ Y.caps)) w
  call : ∀ s F w (k v : ByteArray) (e : Int), Y.I s F w → Y.ready s → Y.cnt s ≤ 1000000 → Calls Tryd.prog Y.ks (#[.agg #[.string k, .string v], .int .i64 e] ++ Y.caps) w fun en w' => en = .returned (.bool (Y.step s ⟨k, v⟩ e).1) ∧ ∃ F', Y.I (Y.step s ⟨k, v⟩ e).2 F' w' ∧ Mod F w w' ∧ ∀ k, F' k → F k ∨ w.heap.size ≤ k
  rdy : ∀ s p, Y.ready s → (Y.step s p 0).1 = true → Y.ready (Y.step s p 0).2
  cnt1 : ∀ s p, (Y.step s p 0).1 = true → Y.cnt (Y.step s p 0).2 ≤ Y.cnt s + 1
/-- both, since w0; they turn none of C, and not each other's -/
structure Jt {σ : Type} (G : Gf) (Y : Yf σ) (w0 : World) (C : Nat → Prop) (a : List ByteArray) (s : σ) (w : World) : Prop where
  ex : ∃ Fg Fy, G.I a Fg w ∧ Y.I s Fy w ∧ (∀ k, Fg k → ¬ Fy k ∧ ¬ Y.N k ∧ ¬ C k) ∧ (∀ k, Fy k → ¬ G.N k ∧ ¬ C k) ∧ (∀ k, C k → k < w.heap.size)
  n : ∀ k, G.N k → k < w0.heap.size
section
variable {σ : Type} {G : Gf} {Y : Yf σ} {objs : List Ob} {w0 : World} {C : Nat → Prop} {a : List ByteArray} {s : σ} {w w' : World}
theorem Jt.grow (okG : GfOk G objs) (okY : YfOk Y) (h : Jt G Y w0 C a s w) (m : Mod (fun _ => False) w w') : Jt G Y w0 (fun k => C k ∨ (w.heap.size ≤ k ∧ k < w'.heap.size)) a s w' := by
  obtain ⟨⟨Fg, Fy, h1, h2, h3, h4, h5⟩, h6⟩ := h
  refine ⟨⟨Fg, Fy, okG.keep _ _ _ _ _ h1 m (fun _ _ h => h), okY.keep _ _ _ _ _ h2 m (fun _ _ h => h), fun k hk => ⟨(h3 k hk).1, (h3 k hk).2.1, ?_⟩, fun k hk => ⟨(h4 k hk).1, ?_⟩, ?_⟩, h6⟩
  · rintro (e | e)
    · exact (h3 k hk).2.2 e
    · have := okG.lt _ _ _ _ h1 (.inl hk); omega
  · rintro (e | e)
    · exact (h4 k hk).2 e
    · have := okY.lt _ _ _ _ h2 (.inl hk); omega
  · rintro k (e | e)
    · exact Nat.lt_of_lt_of_le (h5 k e) m.size
    · exact e.2
theorem Jt.mono {C' : Nat → Prop} (h : Jt G Y w0 C a s w) (hc : ∀ k, C' k → C k) : Jt G Y w0 C' a s w := by
  obtain ⟨⟨Fg, Fy, h1, h2, h3, h4, h5⟩, h6⟩ := h
  exact ⟨⟨Fg, Fy, h1, h2, fun k hk => ⟨(h3 k hk).1, (h3 k hk).2.1, fun e => (h3 k hk).2.2 (hc k e)⟩, fun k hk => ⟨(h4 k hk).1, fun e => (h4 k hk).2 (hc k e)⟩, fun k hk => h5 k (hc k hk)⟩, h6⟩
theorem Jt.keep0 (okG : GfOk G objs) (okY : YfOk Y) (h : Jt G Y w0 C a s w) (m : Mod (fun _ => False) w w') : Jt G Y w0 C a s w' := (h.grow okG okY m).mono (fun _ h => .inl h)
/-- one is told a pair -/
theorem Jt.call (okG : GfOk G objs) (okY : YfOk Y) (h : Jt G Y w0 C a s w) (hr : Y.ready s) (hc : Y.cnt s ≤ 1000000) (k v : ByteArray) (e : Int) :
    Calls Tryd.prog Y.ks (#[.agg #[.string k, .string v], .int .i64 e] ++ Y.caps) w fun en w' => en = .returned (.bool (Y.step s ⟨k, v⟩ e).1) ∧ Jt G Y w0 C a (Y.step s ⟨k, v⟩ e).2 w' ∧ Mod (fun g => ¬ C g) w w' := by
  obtain ⟨⟨Fg, Fy, h1, h2, h3, h4, h5⟩, h6⟩ := h
  refine (okY.call _ _ _ k v e h2 hr hc).mono ?_
  rintro en w' ⟨rfl, F', g1, g2, g3⟩
  refine ⟨rfl, ⟨⟨Fg, F', okG.keep _ _ _ _ _ h1 g2 (fun k hk hf => hk.elim (fun hk => (h3 k hk).1 hf) (fun hk => (h4 k hf).1 hk)), g1, fun k hk => ⟨fun hf => ?_, (h3 k hk).2.1, (h3 k hk).2.2⟩, fun k hk => ⟨fun hn => ?_, fun hn => ?_⟩, fun k hk => Nat.lt_of_lt_of_le (h5 k hk) g2.size⟩, h6⟩, g2.mono fun k _ hf hc => (h4 k hf).2 hc⟩
  · rcases g3 k hf with e | e
    · exact (h3 k hk).1 e
    · have := okG.lt _ _ _ _ h1 (.inl hk); omega
  · rcases g3 k hk with e | e
    · exact (h4 k e).1 hn
    · have := okG.lt _ _ _ _ h1 (.inr hn); omega
  · rcases g3 k hk with e | e
    · exact (h4 k e).2 hn
    · have := h5 k hn; omega
/-- a node is asked for -/
theorem Jt.load (okG : GfOk G objs) (okY : YfOk Y) (hob : ObsOk objs) (h : Jt G Y w0 C a s w) (k : Link) (level : Int) (ha : a.length ≤ 1000000000) (h0 : w0.heap.size ≤ w.heap.size) :
    Calls Tryd.prog 36 #[.func (.func G.ks) #[] G.caps, .agg #[.string k.last, .string k.id, .int .i64 k.many], .int .i64 level] w fun e w' =>
      ∃ vp vk, e = .returned (.tuple #[.agg #[vp, .int .i64 (pnL (pnodeOf objs k level)), vk], .int .i64 (pnE (pnodeOf objs k level))]) ∧ w'.ownsRow w.heap.size 48 2 vp (pnP (pnodeOf objs k level)).length ((pnP (pnodeOf objs k level)).flatMap kc) ∧ w'.ownsRow w.heap.size 67 3 vk (pnK (pnodeOf objs k level)).length ((pnK (pnodeOf objs k level)).flatMap lc) ∧
        Jt G Y w0 (fun g => C g ∨ vp.ownBlock = some g ∨ vk.ownBlock = some g) (a ++ [k.id]) s w' ∧ Mod (fun g => ¬ C g) w w' := by
  obtain ⟨⟨Fg, Fy, h1, h2, h3, h4, h5⟩, h6⟩ := h
  have hl := load_calls okG hob (C := fun g => C g ∨ Fy g ∨ Y.N g) k level a w ⟨⟨Fg, h1, fun g hg => ?_⟩, h6⟩ ha h0
  · unfold LoadPost at hl
    refine hl.mono ?_
    rintro e w' ⟨vp, vk, rfl, hvp, hvk, ⟨⟨F', g1, g2⟩, _⟩, hm⟩
    have h2' := okY.keep _ _ _ _ _ h2 hm (fun g hg h => h (.inr hg))
    refine ⟨vp, vk, rfl, hvp, hvk, ⟨⟨F', Fy, g1, h2', fun g hg => ⟨fun hf => (g2 g (.inl (.inr (.inl hf)))).2 hg, fun hf => (g2 g (.inl (.inr (.inr hf)))).2 hg, ?_⟩, fun g hg => ⟨(h4 g hg).1, ?_⟩, ?_⟩, h6⟩, hm.mono fun g _ hg hc => hg (.inl hc)⟩
    · rintro (hc | hc)
      · exact (g2 g (.inl (.inl hc))).2 hg
      · exact (g2 g (.inr hc)).2 hg
    · have hlt := okY.lt _ _ _ _ h2 (.inl hg)
      rintro (hc | hc | hc)
      · exact (h4 g hg).2 hc
      · have := (hvp.lt g hc).1; omega
      · have := (hvk.lt g hc).1; omega
    · rintro g (hc | hc)
      · exact Nat.lt_of_lt_of_le (h5 g hc) hm.size
      · exact (g2 g (.inr hc)).1
  · rcases hg with hg | hg
    · exact ⟨h5 g hg, fun hf => (h3 g hf).2.2 hg⟩
    · refine ⟨okY.lt _ _ _ _ h2 hg, fun hf => hg.elim (h3 g hf).1 (h3 g hf).2.1⟩
end
/-! who told yes is ready still -/
section
variable {σ : Type} {step : σ → Pair → Int → Bool × σ} {R : σ → Prop} (hs : ∀ s p, R s → (step s p 0).1 = true → R (step s p 0).2)
include hs
theorem leafW_ready (lo hi : ByteArray) : ∀ (ps : List Pair) (s : σ), R s → (leafW step lo hi ps s).1 = true → R (leafW step lo hi ps s).2
  | [], s, h, _ => h
  | p :: ps, s, h, hc => by
    unfold leafW at hc ⊢
    split at hc
    · rename_i h1
      rw [if_pos h1]
      split at hc
      · rename_i h2
        rw [if_pos h2]
        exact leafW_ready lo hi ps _ (hs s p h h2) hc
      · cases hc
    · rename_i h1
      rw [if_neg h1]
      exact leafW_ready lo hi ps s h hc
omit hs in
theorem kidsW_ready {r : Link → List ByteArray × σ → Bool × List ByteArray × σ} (hr : ∀ k x, R x.2 → (r k x).1 = true → R (r k x).2.2) (lo hi : ByteArray) : ∀ (ks : List Link) (x : List ByteArray × σ), R x.2 → (kidsW r lo hi ks x).1 = true → R (kidsW r lo hi ks x).2.2
  | [], x, h, _ => h
  | k :: ks, x, h, hc => by
    unfold kidsW at hc ⊢
    split at hc
    · rename_i h1
      rw [if_pos h1]
      split at hc
      · rename_i h2
        rw [if_pos h2]
        split at hc
        · rename_i h3
          rw [if_pos h3]
          exact hr k x h h2
        · rename_i h3
          rw [if_neg h3]
          exact kidsW_ready hr lo hi ks _ (hr k x h h2) hc
      · cases hc
    · rename_i h1
      rw [if_neg h1]
      split at hc
      · rename_i h3
        rw [if_pos h3]
        exact h
      · rename_i h3
        rw [if_neg h3]
        exact kidsW_ready hr lo hi ks _ h hc
theorem walk_ready (objs : List Ob) (lo hi : ByteArray) : ∀ (f : Nat) (level : Int) (k : Link) (x : List ByteArray × σ), R x.2 → (walkS step objs lo hi f level k x).1 = true → R (walkS step objs lo hi f level k x).2.2
  | 0, level, k, x, h, _ => h
  | f + 1, level, k, x, h, hc => by
    change (walkN step objs lo hi (walkS step objs lo hi f) level k x).1 = true at hc
    show R (walkN step objs lo hi (walkS step objs lo hi f) level k x).2.2
    unfold walkN at hc ⊢
    cases hn : pnodeOf objs k level with
    | bad e => rw [hn] at hc; cases hc
    | leaf ps =>
      rw [hn] at hc
      exact leafW_ready hs lo hi ps _ h hc
    | branch L kids =>
      rw [hn] at hc
      exact kidsW_ready (fun k x h1 h2 => walk_ready objs lo hi f (L - 1) k x h1 h2) lo hi kids _ h hc
end
/-- behind the node that was met -/
structure NkIs {σ : Type} (G : Gf) (Y : Yf σ) (w0 : World) (C D : Nat → Prop) (bn : Nat) (vp vk : Value) (n : PNode) (w : World) (a : List ByteArray) (s : σ) (w' : World) : Prop where
  j : Jt G Y w0 D a s w'
  c : ∀ g, C g → D g
  b : D bn
  dp : ∀ g, vp.ownBlock = some g → D g
  dk : ∀ g, vk.ownBlock = some g → D g
  node : Has w' bn [vp, .int .i64 (pnL n), vk] 80
  op : w'.ownsRow w.heap.size 48 2 vp (pnP n).length ((pnP n).flatMap kc)
  ol : w'.ownsRow w.heap.size 67 3 vk (pnK n).length ((pnK n).flatMap lc)
  mod : Mod (fun g => ¬ C g) w w'
  le : w0.heap.size ≤ w.heap.size
theorem NkIs.next {σ : Type} {G : Gf} {Y : Yf σ} {w0 : World} {C D : Nat → Prop} {bn : Nat} {vp vk : Value} {n : PNode} {w w' w'' : World} {a a' : List ByteArray} {s s' : σ} (h : NkIs G Y w0 C D bn vp vk n w a s w') (j : Jt G Y w0 D a' s' w'') (m : Mod (fun g => ¬ D g) w' w'') : NkIs G Y w0 C D bn vp vk n w a' s' w'' :=
  ⟨j, h.c, h.b, h.dp, h.dk, h.node.keep m (fun e => e h.b), own_keep h.op m (fun g _ hg e => e (h.dp g hg)), own_keep h.ol m (fun g _ hg e => e (h.dk g hg)), Mod.trans h.mod m (fun g _ hg hc => hg (h.c g hc)), h.le⟩
end Prolly
end Go.Proofs.YtpoljpjcmigobaaDoor
/- The walk of prolly's walk. -/
namespace Go.Proofs.YtpoljpjcmigobaaDoor
set_option linter.unusedVariables false
set_option linter.unusedSimpArgs false
open Go.RowKit K Wire
namespace Prolly
open Go.Proofs.YtpoljpjcmigobaaDoor.Obj Go.Proofs.YtpoljpjcmigobaaDoor.Blob

def WalkPost {σ : Type} (G : Gf) (Y : Yf σ) (w0 : World) (C : Nat → Prop) (r : Bool × List ByteArray × σ) (w : World) (e : Ending) (w' : World) : Prop :=
  e = .returned (.bool r.1) ∧ Jt G Y w0 C r.2.1 r.2.2 w' ∧ Mod (fun g => ¬ C g) w w'
set_option maxRecDepth 100000 in
set_option maxHeartbeats 16000000 in
theorem walk_step {σ : Type} {G : Gf} {Y : Yf σ} {objs : List Ob} (okG : GfOk G objs) (okY : YfOk Y) (hob : ObsOk objs) {w0 : World} (lo hi : ByteArray) (f : Nat)
    (IH : ∀ (C : Nat → Prop) (L : Int) (k : Link) (a : List ByteArray) (s : σ) (w : World), 0 ≤ L → L < f → LOk L k → Jt G Y w0 C a s w → Y.ready s → ((a.length : Int) + needA L k ≤ 1000000 ∧ (Y.cnt s : Int) + needO L k ≤ 1000000) → w0.heap.size ≤ w.heap.size →
      Calls Tryd.prog 73 #[.func (.func G.ks) #[] G.caps, .agg #[.string k.last, .string k.id, .int .i64 k.many], .int .i64 L, .string lo, .string hi, .func (.func Y.ks) #[] Y.caps] w (WalkPost G Y w0 C (walkS Y.step objs lo hi f L k (a, s)) w))
    (C : Nat → Prop) (L0 : Int) (hlv : (L0 = -1 ∧ 20 ≤ f) ∨ (0 ≤ L0 ∧ L0 < f + 1)) (k : Link) (a : List ByteArray) (s : σ) (w : World) (hk : LOk L0 k) (hJ : Jt G Y w0 C a s w) (hrd : Y.ready s) (hnm : (a.length : Int) + needA L0 k ≤ 1000000 ∧ (Y.cnt s : Int) + needO L0 k ≤ 1000000) (h0 : w0.heap.size ≤ w.heap.size) :
    Calls Tryd.prog 73 #[.func (.func G.ks) #[] G.caps, .agg #[.string k.last, .string k.id, .int .i64 k.many], .int .i64 L0, .string lo, .string hi, .func (.func Y.ks) #[] Y.caps] w (WalkPost G Y w0 C (walkN Y.step objs lo hi (walkS Y.step objs lo hi f) L0 k (a, s)) w) := by
  have hma := (Mod.refl (fun _ => False) w).alloc (.cells #[.string k.last, .string k.id, .int .i64 k.many] 67)
  have hal : a.length ≤ 1000000 := by have := need_bad hk; omega
  have hld := (hJ.grow okG okY hma).load okG okY hob k L0 (by omega) (Nat.le_trans h0 hma.size)
  have he := fun w' => okY.enter w'
  unfold WalkPost
  obtain ⟨y, hy⟩ : ∃ y, walkN Y.step objs lo hi (walkS Y.step objs lo hi f) L0 k (a, s) = y := ⟨_, rfl⟩
  rw [hy]
  unfold walkN at hy
  obtain ⟨n, hn⟩ : ∃ n, pnodeOf objs k L0 = n := ⟨_, rfl⟩
  rw [hn] at hld hy
  obtain ⟨E2, e1⟩ : ∃ E, pnE n = E := ⟨_, rfl⟩
  obtain ⟨L2, e2⟩ : ∃ L, pnL n = L := ⟨_, rfl⟩
  obtain ⟨np2, e3⟩ : ∃ x, (pnP n).length = x := ⟨_, rfl⟩
  obtain ⟨nk2, e4⟩ : ∃ x, (pnK n).length = x := ⟨_, rfl⟩
  rw [e1, e2, e3, e4] at hld
  have HN := Lib.hid hn
  have HLD := Lib.hid hld
  have HK := Lib.hid hk
  have HNM := Lib.hid hnm
  have HRS := Lib.hid hrd
  have HIH := Lib.hid IH
  have HMA := Lib.hid hma
  have hsz : (w.alloc (.cells #[.string k.last, .string k.id, .int .i64 k.many] 67)).heap.size = w.heap.size + 1 := by simp
  clear hn hld hk hnm hrd IH hJ hma
  go_enter Tryd.func73, Tryd.ntmps73
  go_wp2_with fail
  refine HLD.out.mono ?_
  rintro en w2 ⟨vp, vk, rfl, hvp, hvk, hj2, hm2⟩
  rw [hsz] at hj2 hm2
  obtain ⟨Ap, cp, rfl, _, _, _, _⟩ := own_cells hvp
  obtain ⟨Ak, ck, rfl, _, _, _, _⟩ := own_cells hvk
  obtain ⟨bn, hbn⟩ : ∃ bn, w2.heap.size = bn := ⟨_, rfl⟩
  have hmb := (Mod.refl (fun _ => False) w2).alloc (.cells #[.slice Ap np2 cp, .int .i64 L2, .slice Ak nk2 ck] 80)
  have hbb := Has.new w2 [.slice Ap np2 cp, .int .i64 L2, .slice Ak nk2 ck] 80
  have hj3 := hj2.grow okG okY hmb
  have hws : w.heap.size ≤ (w.alloc (.cells #[.string k.last, .string k.id, .int .i64 k.many] 67)).heap.size := by rw [hsz]; omega
  have hnk : ∃ D, NkIs G Y w0 C D bn (.slice Ap np2 cp) (.slice Ak nk2 ck) n w (a ++ [k.id]) s (w2.alloc (.cells #[.slice Ap np2 cp, .int .i64 L2, .slice Ak nk2 ck] 80)) := by
    subst hbn
    refine ⟨_, hj3, fun g hg => .inl (.inl (.inl hg)), .inr ⟨Nat.le_refl _, by simp⟩, fun g hg => .inl (.inr (.inl hg)), fun g hg => .inl (.inr (.inr hg)), by rw [e2]; exact hbb, ?_, ?_, ?_, h0⟩
    · rw [e3]; exact own_base (own_keep hvp hmb (fun _ _ _ h => h)) hws
    · rw [e4]; exact own_base (own_keep hvk hmb (fun _ _ _ h => h)) hws
    · exact Mod.trans (Mod.trans (HMA.out.mono fun _ _ h => h.elim) hm2 (fun g hg h hc => h (.inl hc))) hmb (fun _ _ h => h.elim)
  obtain ⟨D, hnk⟩ := hnk
  obtain ⟨W3, hW3⟩ : ∃ W3, w2.alloc (.cells #[.slice Ap np2 cp, .int .i64 L2, .slice Ak nk2 ck] 80) = W3 := ⟨_, rfl⟩
  rw [hW3] at hnk
  have HNK := Lib.hid hnk
  have HW3 := Lib.hid hW3
  clear hvp hvk hj2 hm2 hmb hbb hj3 hnk HLD HMA hsz hws hW3
  cases n with
  | bad e =>
    have he0 : e ≠ 0 := by have := pnode_bad HN.out; omega
    obtain rfl : e = E2 := e1
    have b1 : (e != 0) = true := by simpa using he0
    have HCA := Lib.hid (HNK.out.j.call okG okY HRS.out (by have := HNM.out.2; have := (need_bad HK.out).2; omega) ⟨#[]⟩ ⟨#[]⟩ e)
    dsimp only at hy
    subst hy
    clear he0
    go_wp2_with fail
    rw [HW3.out]
    refine HCA.out.mono ?_
    rintro en w5 ⟨rfl, hj5, hm5⟩
    have HFIN := Lib.hid (HNK.out.next hj5 hm5)
    clear hj5 hm5
    go_wp2_with fail
    go_ret
    exact ⟨rfl, HFIN.out.j.mono HFIN.out.c, HFIN.out.mod⟩
  | leaf ps =>
    obtain rfl : E2 = 0 := e1.symm
    obtain rfl : L2 = 0 := e2.symm
    obtain rfl : ps.length = np2 := e3
    obtain rfl : 0 = nk2 := e4
    dsimp only at hy
    obtain ⟨bb, _, hbb⟩ := pnode_leaf HN.out
    obtain ⟨_, _, _, hpl, _, _⟩ := leaf_facts hbb
    have hnl := (need_leaf hbb HK.out).2
    have hc0 : Y.cnt s + ps.length ≤ 1000000 := by have := HNM.out.2; omega
    obtain ⟨R, hR⟩ : ∃ R, leafW Y.step lo hi ps s = R := ⟨_, rfl⟩
    rw [hR] at hy
    subst hy
    have HR := Lib.hid hR
    have n0 := HNK.out.node.cell (o := 0) rfl
    clear hbb hnl
    go_wp2_with fail
    clear n0
    rw [HW3.out]
    go_loopw [35] (fun i wr => ∃ (j : Nat) (sj : σ), i = .int .i64 j ∧ j ≤ ps.length ∧ Hid (leafW Y.step lo hi (ps.drop j) sj = R) ∧ Hid (Y.ready sj) ∧ Hid (Y.cnt sj + (ps.length - j) ≤ 1000000) ∧ Hid (NkIs G Y w0 C D bn (.slice Ap ps.length cp) (.slice Ak 0 ck) (.leaf ps) w (a ++ [k.id]) sj wr)) (fun i _ => ps.length - (intOf i).toNat)
    case atStart => exact ⟨0, s, by go_num, by omega, Lib.hid (by rw [List.drop_zero]; exact HR.out), HRS, Lib.hid (by omega), HNK⟩
    case round =>
      clear HNK HR hc0 hR
      obtain ⟨j, sj, rfl, hj, HKY, HRD, HCN, HNJ⟩ := hrel
      by_cases hjl : j < ps.length
      · have j1 : (j : Int) < (ps.length : Int) := by omega
        have j0 : (0 : Int) ≤ (j : Int) := by omega
        obtain ⟨A9, c9, he9, _, hcp, _, _⟩ := own_cells HNJ.out.op
        obtain ⟨rfl, rfl⟩ : Ap = A9 ∧ cp = c9 := by simpa [pnP] using he9
        rcases hcp with h | ⟨ba, o, rfl, hcell⟩
        · have := flat_len kc_len ps; rw [show ps.flatMap kc = [] from h] at this; simp at this; omega
        have y0 := hcell _ _ (flat_get kc_len ps j 0 hjl (by omega))
        have y1 := hcell _ _ (flat_get kc_len ps j 1 hjl (by omega))
        rw [Nat.add_zero] at y0
        rw [← Nat.add_assoc] at y1
        have hdr := List.drop_eq_getElem_cons hjl
        obtain ⟨P, hP⟩ : ∃ P, ps[j] = P := ⟨_, rfl⟩
        rw [hP] at y0 y1 hdr
        have hks := HKY.out
        rw [hdr] at hks
        unfold leafW at hks
        have hma := (Mod.refl (fun _ => False) wr).alloc (.cells #[.string P.key, .string P.val] 48)
        have hJ4 := HNJ.out.j.grow okG okY hma
        have HNK4 := HNJ
        clear hcell he9 hP hdr HKY
        cases h1 : ltS P.key lo with
        | true =>
          have e1 : Go.Op.bytesLess P.key.toList lo.toList = true := h1
          rw [if_neg (by unfold isIn; rw [h1]; simp)] at hks
          have HNK4 := Lib.hid (HNJ.out.next (HNJ.out.j.keep0 okG okY hma) (hma.mono fun _ _ h => h.elim))
          have hcn := HCN.out
          clear h1 hJ4 hma
          have HJ1 : Hid (leafW Y.step lo hi (ps.drop (j + 1)) sj = R) := Lib.hid hks
          clear hks
          go_wp2_with fail
          go_roundw
          case rel => exact ⟨j + 1, sj, by go_num, by omega, HJ1, HRD, Lib.hid (by omega), HNK4⟩
          case measure => simp [intOf]; omega
        | false =>
          have e1 : Go.Op.bytesLess P.key.toList lo.toList = false := h1
          cases h2 : hi.toList.isEmpty with
          | true =>
            rw [if_pos (by unfold isIn; rw [h1, h2]; rfl)] at hks
            clear h1 hma
            have HRDN := Lib.hid (okY.rdy sj ⟨P.key, P.val⟩ HRD.out)
            have HCTN := Lib.hid (okY.cnt1 sj ⟨P.key, P.val⟩)
            obtain ⟨T, hT⟩ : ∃ T, Y.step sj ⟨P.key, P.val⟩ 0 = T := ⟨_, rfl⟩
            obtain ⟨tb, ts⟩ := T
            have hca := hJ4.call okG okY HRD.out (by have := HCN.out; omega) P.key P.val 0
            have hks' : (if (Y.step sj ⟨P.key, P.val⟩ 0).1 = true then leafW Y.step lo hi (ps.drop (j + 1)) (Y.step sj ⟨P.key, P.val⟩ 0).2 else (false, (Y.step sj ⟨P.key, P.val⟩ 0).2)) = R := hks
            rw [hT] at hca hks' HRDN HCTN
            dsimp only at hca hks' HRDN HCTN
            have HCA := Lib.hid hca
            clear hca hks hT hJ4
            cases tb with
            | true =>
              rw [if_pos rfl] at hks'
              have HJ1 : Hid (leafW Y.step lo hi (ps.drop (j + 1)) ts = R) := Lib.hid hks'
              have HRD1 := Lib.hid (HRDN.out rfl)
              have HCN1 : Hid (Y.cnt ts + (ps.length - (j + 1)) ≤ 1000000) := Lib.hid (by have := HCTN.out rfl; have := HCN.out; omega)
              clear hks'
              go_wp2_with fail
              refine HCA.out.mono ?_
              rintro en w5 ⟨rfl, hj5, hm5⟩
              have HNK5 := Lib.hid (HNK4.out.next (hj5.mono (fun g hg => .inl hg)) (Mod.trans (Mod.alloc (Mod.refl _ _) _) hm5 (fun g hg h hd => h (.inl hd))))
              clear hj5 hm5
              go_wp2_with fail
              go_roundw
              case rel => exact ⟨j + 1, ts, by go_num, by omega, HJ1, HRD1, HCN1, HNK5⟩
              case measure => simp [intOf]; omega
            | false =>
              rw [if_neg (by decide)] at hks'
              subst hks'
              go_wp2_with fail
              refine HCA.out.mono ?_
              rintro en w5 ⟨rfl, hj5, hm5⟩
              have HFIN := Lib.hid (HNK4.out.next (hj5.mono (fun g hg => .inl hg)) (Mod.trans (Mod.alloc (Mod.refl _ _) _) hm5 (fun g hg h hd => h (.inl hd))))
              clear hj5 hm5
              go_wp2_with fail
              go_ret
              exact ⟨rfl, HFIN.out.j.mono HFIN.out.c, HFIN.out.mod⟩
          | false =>
            cases h3 : ltS P.key hi with
            | true =>
              have e3 : Go.Op.bytesLess P.key.toList hi.toList = true := h3
              rw [if_pos (by unfold isIn; rw [h1, h2, h3]; rfl)] at hks
              clear h1 h3 hma
              have HRDN := Lib.hid (okY.rdy sj ⟨P.key, P.val⟩ HRD.out)
              have HCTN := Lib.hid (okY.cnt1 sj ⟨P.key, P.val⟩)
              obtain ⟨T, hT⟩ : ∃ T, Y.step sj ⟨P.key, P.val⟩ 0 = T := ⟨_, rfl⟩
              obtain ⟨tb, ts⟩ := T
              have hca := hJ4.call okG okY HRD.out (by have := HCN.out; omega) P.key P.val 0
              have hks' : (if (Y.step sj ⟨P.key, P.val⟩ 0).1 = true then leafW Y.step lo hi (ps.drop (j + 1)) (Y.step sj ⟨P.key, P.val⟩ 0).2 else (false, (Y.step sj ⟨P.key, P.val⟩ 0).2)) = R := hks
              rw [hT] at hca hks' HRDN HCTN
              dsimp only at hca hks' HRDN HCTN
              have HCA := Lib.hid hca
              clear hca hks hT hJ4
              cases tb with
              | true =>
                rw [if_pos rfl] at hks'
                have HJ1 : Hid (leafW Y.step lo hi (ps.drop (j + 1)) ts = R) := Lib.hid hks'
                have HRD1 := Lib.hid (HRDN.out rfl)
                have HCN1 : Hid (Y.cnt ts + (ps.length - (j + 1)) ≤ 1000000) := Lib.hid (by have := HCTN.out rfl; have := HCN.out; omega)
                clear hks'
                go_wp2_with fail
                refine HCA.out.mono ?_
                rintro en w5 ⟨rfl, hj5, hm5⟩
                have HNK5 := Lib.hid (HNK4.out.next (hj5.mono (fun g hg => .inl hg)) (Mod.trans (Mod.alloc (Mod.refl _ _) _) hm5 (fun g hg h hd => h (.inl hd))))
                clear hj5 hm5
                go_wp2_with fail
                go_roundw
                case rel => exact ⟨j + 1, ts, by go_num, by omega, HJ1, HRD1, HCN1, HNK5⟩
                case measure => simp [intOf]; omega
              | false =>
                rw [if_neg (by decide)] at hks'
                subst hks'
                go_wp2_with fail
                refine HCA.out.mono ?_
                rintro en w5 ⟨rfl, hj5, hm5⟩
                have HFIN := Lib.hid (HNK4.out.next (hj5.mono (fun g hg => .inl hg)) (Mod.trans (Mod.alloc (Mod.refl _ _) _) hm5 (fun g hg h hd => h (.inl hd))))
                clear hj5 hm5
                go_wp2_with fail
                go_ret
                exact ⟨rfl, HFIN.out.j.mono HFIN.out.c, HFIN.out.mod⟩
            | false =>
              have e3 : Go.Op.bytesLess P.key.toList hi.toList = false := h3
              rw [if_neg (by unfold isIn; rw [h1, h2, h3]; simp)] at hks
              have HNK4 := Lib.hid (HNJ.out.next (HNJ.out.j.keep0 okG okY hma) (hma.mono fun _ _ h => h.elim))
              have hcn := HCN.out
              clear h1 h3 hJ4 hma
              have HJ1 : Hid (leafW Y.step lo hi (ps.drop (j + 1)) sj = R) := Lib.hid hks
              clear hks
              go_wp2_with fail
              go_roundw
              case rel => exact ⟨j + 1, sj, by go_num, by omega, HJ1, HRD, Lib.hid (by omega), HNK4⟩
              case measure => simp [intOf]; omega
      · have j1 : ¬ (j : Int) < (ps.length : Int) := by omega
        have hxy : (true, sj) = R := by
          rw [← HKY.out, List.drop_of_length_le (by omega)]
          rfl
        subst hxy
        have n2 := HNJ.out.node.cell (o := 2) rfl
        clear HKY
        go_wp2_with fail
        go_loopw [64] (fun i wr2 => i = .int .i64 0 ∧ wr2 = wr) (fun _ _ => 0)
        case atStart => exact ⟨by go_num, rfl⟩
        case round =>
          obtain ⟨rfl, rfl⟩ := hrel
          have HFIN := HNJ
          go_wp2_with fail
          go_ret
          exact ⟨rfl, HFIN.out.j.mono HFIN.out.c, HFIN.out.mod⟩
  | branch L kids =>
    obtain rfl : E2 = 0 := e1.symm
    obtain rfl : L = L2 := e2
    obtain rfl : 0 = np2 := e3
    obtain rfl : kids.length = nk2 := e4
    dsimp only at hy
    obtain ⟨bb, _, hbb⟩ := pnode_branch HN.out
    have hnb2 := need_branch hbb HK.out
    have hko := kid_ok hbb
    obtain ⟨_, _, _, hLl, hL1, hL2, hkn, hkl, _, _, hkk⟩ := branch_facts hbb
    have hLf : L - 1 < f := by
      rcases hlv with h | h
      · omega
      · rcases hLl with h2 | h2
        · omega
        · have := h2.1; omega
    have hA0 : ((a ++ [k.id]).length : Int) + L * manyL (kids.drop 0) ≤ 1000000 := by
      have := HNM.out.1
      simp only [List.length_append, List.length_cons, List.length_nil, List.drop_zero]
      omega
    have hO0 : (Y.cnt s : Int) + manyL (kids.drop 0) ≤ 1000000 := by
      have := HNM.out.2
      simp only [List.drop_zero]
      omega
    have HKO := Lib.hid hko
    have HKK := Lib.hid hkk
    have HR := Lib.hid hy
    have n0 := HNK.out.node.cell (o := 0) rfl
    clear hbb hLl hnb2 hko hkk hy
    go_wp2_with fail
    clear n0
    rw [HW3.out]
    go_loopw [35] (fun i wr2 => i = .int .i64 0 ∧ wr2 = W3) (fun _ _ => 0)
    case atStart => exact ⟨by go_num, rfl⟩
    case round =>
      obtain ⟨rfl, rfl⟩ := hrel
      have n2 := HNK.out.node.cell (o := 2) rfl
      go_wp2_with fail
      clear n2
      go_loopw [64] (fun i wr => ∃ (j : Nat) (aj : List ByteArray) (sj : σ), i = .int .i64 j ∧ j ≤ kids.length ∧ Hid (kidsW (walkS Y.step objs lo hi f (L - 1)) lo hi (kids.drop j) (aj, sj) = y) ∧ Hid (Y.ready sj) ∧ Hid ((aj.length : Int) + L * manyL (kids.drop j) ≤ 1000000 ∧ (Y.cnt sj : Int) + manyL (kids.drop j) ≤ 1000000) ∧
        Hid (NkIs G Y w0 C D bn (.slice Ap 0 cp) (.slice Ak kids.length ck) (.branch L kids) w aj sj wr)) (fun i _ => kids.length - (intOf i).toNat)
      case atStart => exact ⟨0, a ++ [k.id], s, by go_num, by omega, Lib.hid (by rw [List.drop_zero]; exact HR.out), HRS, Lib.hid ⟨hA0, hO0⟩, HNK⟩
      case round =>
        clear HR HNK hA0 hO0 HRS
        obtain ⟨j, aj, sj, rfl, hj, HKY, HRD, HNU, HNJ⟩ := hrel
        by_cases hjl : j < kids.length
        · have j1 : (j : Int) < (kids.length : Int) := by omega
          have j0 : (0 : Int) ≤ (j : Int) := by omega
          obtain ⟨A9, c9, he9, _, hcp, _, _⟩ := own_cells HNJ.out.ol
          obtain ⟨rfl, rfl⟩ : Ak = A9 ∧ ck = c9 := by simpa [pnK] using he9
          rcases hcp with h | ⟨ba, o, rfl, hcell⟩
          · have := flat_len lc_len kids; rw [show kids.flatMap lc = [] from h] at this; simp at this; omega
          have y0 := hcell _ _ (flat_get lc_len kids j 0 hjl (by omega))
          have y1 := hcell _ _ (flat_get lc_len kids j 1 hjl (by omega))
          have y2 := hcell _ _ (flat_get lc_len kids j 2 hjl (by omega))
          rw [Nat.add_zero] at y0
          rw [← Nat.add_assoc] at y1 y2
          have hdr := List.drop_eq_getElem_cons hjl
          have hkq := HKK.out _ (List.getElem_mem hjl)
          have hkoq := HKO.out _ (List.getElem_mem hjl)
          obtain ⟨K, hK⟩ : ∃ K, kids[j] = K := ⟨_, rfl⟩
          rw [hK] at y0 y1 y2 hdr hkq hkoq
          have hks := HKY.out
          have hnu := HNU.out
          rw [hdr, manyL_cons, Int.mul_add] at hnu
          rw [hdr] at hks
          unfold kidsW at hks
          have hdp : 0 ≤ manyL (kids.drop (j + 1)) := manyL_pos (fun q hq => ⟨(HKK.out q (List.mem_of_mem_drop hq)).1, (HKK.out q (List.mem_of_mem_drop hq)).2.1⟩)
          have hLp : 0 ≤ L * K.many := Int.mul_nonneg (by omega) (by omega)
          have hLm : 0 ≤ L * manyL (kids.drop (j + 1)) := Int.mul_nonneg (by omega) hdp
          have hma := (Mod.refl (fun _ => False) wr).alloc (.cells #[.string K.last, .string K.id, .int .i64 K.many] 67)
          have hkb := Has.new wr [.string K.last, .string K.id, .int .i64 K.many] 67
          clear hcell he9 hK hdr HKY HNU
          cases h1 : ltS K.last lo with
          | true =>
            have e1 : Go.Op.bytesLess K.last.toList lo.toList = true := h1
            rw [h1, if_neg (by decide)] at hks
            obtain ⟨a1, ha1⟩ : ∃ a1, aj = a1 := ⟨_, rfl⟩
            obtain ⟨s1, hs1⟩ : ∃ s1, sj = s1 := ⟨_, rfl⟩
            have HNK1 := Lib.hid (HNJ.out.next (HNJ.out.j.keep0 okG okY hma) (hma.mono fun _ _ h => h.elim))
            have HNU1 : Hid ((a1.length : Int) + L * manyL (kids.drop (j + 1)) ≤ 1000000 ∧ (Y.cnt s1 : Int) + manyL (kids.drop (j + 1)) ≤ 1000000) := Lib.hid (by subst ha1; subst hs1; omega)
            have HRD1 := HRD
            rw [ha1, hs1] at hks HNK1
            rw [hs1] at HRD1
            clear h1 hnu hdp hLp hLm hma hkb ha1 hs1
            cases h2 : hi.toList.isEmpty with
            | true =>
              have hen : ends hi K.last = false := by unfold ends; rw [h2]; rfl
              have HK1 : Hid (kidsW (walkS Y.step objs lo hi f (L - 1)) lo hi (kids.drop (j + 1)) (a1, s1) = y) := Lib.hid (by
                have h := hks
                rw [hen, if_neg (by decide)] at h
                exact h)
              clear hen hks
              go_wp2_with fail
              go_roundw
              case rel => exact ⟨j + 1, a1, s1, by go_num, by omega, HK1, HRD1, HNU1, HNK1⟩
              case measure => simp [intOf]; omega
            | false =>
              cases h3 : ltS K.last hi with
              | true =>
                have e3 : Go.Op.bytesLess K.last.toList hi.toList = true := h3
                have hen : ends hi K.last = false := by unfold ends; rw [h2, h3]; rfl
                clear h3
                have HK1 : Hid (kidsW (walkS Y.step objs lo hi f (L - 1)) lo hi (kids.drop (j + 1)) (a1, s1) = y) := Lib.hid (by
                  have h := hks
                  rw [hen, if_neg (by decide)] at h
                  exact h)
                clear hen hks
                go_wp2_with fail
                go_roundw
                case rel => exact ⟨j + 1, a1, s1, by go_num, by omega, HK1, HRD1, HNU1, HNK1⟩
                case measure => simp [intOf]; omega
              | false =>
                have e3 : Go.Op.bytesLess K.last.toList hi.toList = false := h3
                rw [show ends hi K.last = true by unfold ends; rw [h2, h3]; rfl, if_pos rfl] at hks
                subst hks
                have HFIN := HNK1
                clear h3
                go_wp2_with fail
                go_ret
                exact ⟨rfl, HFIN.out.j.mono HFIN.out.c, HFIN.out.mod⟩
          | false =>
            have e1 : Go.Op.bytesLess K.last.toList lo.toList = false := h1
            rw [h1, if_pos rfl] at hks
            have hJ4 := HNJ.out.j.grow okG okY hma
            have hn4 := HNJ.out.node.keep hma (fun h => h)
            have hgl := walk_len okY.cnt1 objs lo hi f (L - 1) K (aj, sj) hkoq.1
            rw [hkoq.2.1, hkoq.2.2] at hgl
            have hwr := walk_ready okY.rdy objs lo hi f (L - 1) K (aj, sj) HRD.out
            have hle4 : w0.heap.size ≤ (wr.alloc (.cells #[.string K.last, .string K.id, .int .i64 K.many] 67)).heap.size := Nat.le_trans HNJ.out.le (Nat.le_trans HNJ.out.mod.size hma.size)
            have hca := HIH.out _ (L - 1) K aj sj _ (by omega) hLf hkoq.1 hJ4 HRD.out ⟨by rw [hkoq.2.1]; omega, by rw [hkoq.2.2]; omega⟩ hle4
            unfold WalkPost at hca
            obtain ⟨T, hT⟩ : ∃ T, walkS Y.step objs lo hi f (L - 1) K (aj, sj) = T := ⟨_, rfl⟩
            rw [hT] at hks hgl hca hwr
            obtain ⟨tb, a1, s1⟩ := T
            dsimp only at hks hgl hca hwr
            have HCA := Lib.hid hca
            have nl : (wr.alloc (.cells #[.string K.last, .string K.id, .int .i64 K.many] 67)).cell? ⟨bn, 1, none⟩ = some (.int .i64 L) := hn4.cell (o := 1) rfl
            have HKB := Lib.hid hkb
            have w1 : IntKind.i64.wrap (L - 1) = L - 1 := by rw [IntKind.wrap_i64]; omega
            have hsz : (wr.alloc (.cells #[.string K.last, .string K.id, .int .i64 K.many] 67)).heap.size = wr.heap.size + 1 := by simp
            clear h1 hca hJ4 hn4 hkb hT hma hle4
            cases tb with
            | true =>
              rw [if_pos rfl] at hks
              have hgl2 := hgl rfl
              have HRD1 := Lib.hid (hwr rfl)
              have HNU1 : Hid ((a1.length : Int) + L * manyL (kids.drop (j + 1)) ≤ 1000000 ∧ (Y.cnt s1 : Int) + manyL (kids.drop (j + 1)) ≤ 1000000) := Lib.hid (by omega)
              clear hgl hgl2 hwr hnu hdp hLp hLm
              go_wp2_with fail
              refine HCA.out.mono ?_
              rintro en w5 ⟨rfl, hj5, hm5⟩
              rw [hsz] at hj5 hm5
              have hkb5 := HKB.out.keep hm5 (fun h => h (.inr ⟨Nat.le_refl _, by omega⟩))
              have HNK1 := Lib.hid (HNJ.out.next (hj5.mono (fun g hg => .inl hg)) (Mod.trans (Mod.alloc (Mod.refl _ _) _) hm5 (fun g hg h hd => h (.inl hd))))
              have kk0 := hkb5.cell (o := 0) rfl
              clear hj5 hm5 hkb5 HCA nl y0 y1 y2
              cases h2 : hi.toList.isEmpty with
              | true =>
                have hen : ends hi K.last = false := by unfold ends; rw [h2]; rfl
                have HK1 : Hid (kidsW (walkS Y.step objs lo hi f (L - 1)) lo hi (kids.drop (j + 1)) (a1, s1) = y) := Lib.hid (by
                  have h := hks
                  rw [hen, if_neg (by decide)] at h
                  exact h)
                clear hen hks
                go_wp2_with fail
                go_roundw
                case rel => exact ⟨j + 1, a1, s1, by go_num, by omega, HK1, HRD1, HNU1, HNK1⟩
                case measure => simp [intOf]; omega
              | false =>
                cases h3 : ltS K.last hi with
                | true =>
                  have e3 : Go.Op.bytesLess K.last.toList hi.toList = true := h3
                  have hen : ends hi K.last = false := by unfold ends; rw [h2, h3]; rfl
                  clear h3
                  have HK1 : Hid (kidsW (walkS Y.step objs lo hi f (L - 1)) lo hi (kids.drop (j + 1)) (a1, s1) = y) := Lib.hid (by
                    have h := hks
                    rw [hen, if_neg (by decide)] at h
                    exact h)
                  clear hen hks
                  go_wp2_with fail
                  go_roundw
                  case rel => exact ⟨j + 1, a1, s1, by go_num, by omega, HK1, HRD1, HNU1, HNK1⟩
                  case measure => simp [intOf]; omega
                | false =>
                  have e3 : Go.Op.bytesLess K.last.toList hi.toList = false := h3
                  rw [show ends hi K.last = true by unfold ends; rw [h2, h3]; rfl, if_pos rfl] at hks
                  subst hks
                  have HFIN := HNK1
                  clear h3
                  go_wp2_with fail
                  go_ret
                  exact ⟨rfl, HFIN.out.j.mono HFIN.out.c, HFIN.out.mod⟩
            | false =>
              rw [if_neg (by decide)] at hks
              subst hks
              clear hgl hwr hnu hdp hLp hLm
              go_wp2_with fail
              refine HCA.out.mono ?_
              rintro en w5 ⟨rfl, hj5, hm5⟩
              have HFIN := Lib.hid (HNJ.out.next (hj5.mono (fun g hg => .inl hg)) (Mod.trans (Mod.alloc (Mod.refl _ _) _) hm5 (fun g hg h hd => h (.inl hd))))
              clear hj5 hm5 HCA nl y0 y1 y2
              go_wp2_with fail
              go_ret
              exact ⟨rfl, HFIN.out.j.mono HFIN.out.c, HFIN.out.mod⟩
        · have j1 : ¬ (j : Int) < (kids.length : Int) := by omega
          have hxy : (true, aj, sj) = y := by
            rw [← HKY.out, List.drop_of_length_le (by omega)]
            rfl
          subst hxy
          have HFIN := HNJ
          clear HKY HNU
          go_wp2_with fail
          go_ret
          exact ⟨rfl, HFIN.out.j.mono HFIN.out.c, HFIN.out.mod⟩
end Prolly
end Go.Proofs.YtpoljpjcmigobaaDoor
/- prolly's walk, any depth. -/
namespace Go.Proofs.YtpoljpjcmigobaaDoor
set_option linter.unusedVariables false
set_option linter.unusedSimpArgs false
open Go.RowKit K Wire
namespace Prolly
open Go.Proofs.YtpoljpjcmigobaaDoor.Obj Go.Proofs.YtpoljpjcmigobaaDoor.Blob

theorem walk_calls {σ : Type} {G : Gf} {Y : Yf σ} {objs : List Ob} (okG : GfOk G objs) (okY : YfOk Y) (hob : ObsOk objs) {w0 : World} (lo hi : ByteArray) : ∀ (f : Nat) (C : Nat → Prop) (L : Int) (k : Link) (a : List ByteArray) (s : σ) (w : World), 0 ≤ L → L < f → LOk L k → Jt G Y w0 C a s w → Y.ready s → ((a.length : Int) + needA L k ≤ 1000000 ∧ (Y.cnt s : Int) + needO L k ≤ 1000000) → w0.heap.size ≤ w.heap.size →
      Calls Tryd.prog 73 #[.func (.func G.ks) #[] G.caps, .agg #[.string k.last, .string k.id, .int .i64 k.many], .int .i64 L, .string lo, .string hi, .func (.func Y.ks) #[] Y.caps] w (WalkPost G Y w0 C (walkS Y.step objs lo hi f L k (a, s)) w)
  | 0, C, L, k, a, s, w, h1, h2, _, _, _, _, _ => absurd h2 (by omega)
  | f + 1, C, L, k, a, s, w, h1, h2, h3, h4, h5, h6, h7 =>
    walk_step okG okY hob lo hi f (walk_calls okG okY hob lo hi f) C L (.inr ⟨h1, by omega⟩) k a s w h3 h4 h5 h6 h7
/-- from the root -/
theorem walk0_calls {σ : Type} {G : Gf} {Y : Yf σ} {objs : List Ob} (okG : GfOk G objs) (okY : YfOk Y) (hob : ObsOk objs) {w0 : World} (lo hi : ByteArray) (C : Nat → Prop) (root : ByteArray) (a : List ByteArray) (s : σ) (w : World) (hJ : Jt G Y w0 C a s w) (hrd : Y.ready s) (ha : a.length ≤ 800000) (hc : Y.cnt s ≤ 800000) (h0 : w0.heap.size ≤ w.heap.size) :
      Calls Tryd.prog 73 #[.func (.func G.ks) #[] G.caps, .agg #[.string ⟨#[]⟩, .string root, .int .i64 0], .int .i64 (-1), .string lo, .string hi, .func (.func Y.ks) #[] Y.caps] w (WalkPost G Y w0 C (walkS Y.step objs lo hi 30 (-1) (link0 root) (a, s)) w) :=
  walk_step okG okY hob lo hi 29 (walk_calls okG okY hob lo hi 29) C (-1) (.inl ⟨rfl, by omega⟩) (link0 root) a s w (.inl rfl) hJ hrd (by unfold needA needO; rw [if_pos (by omega), if_pos (by omega)]; omega) h0
end Prolly
end Go.Proofs.YtpoljpjcmigobaaDoor
/- What prolly's between and All give back. -/
namespace Go.Proofs.YtpoljpjcmigobaaDoor
set_option linter.unusedVariables false
set_option linter.unusedSimpArgs false
open Go.RowKit K Wire
namespace Prolly
open Go.Proofs.YtpoljpjcmigobaaDoor.Obj Go.Proofs.YtpoljpjcmigobaaDoor.Blob

/-- the world behind between: four boxes -/
def betW (ks : Nat) (caps : Array Value) (root lo hi : ByteArray) (w : World) : World :=
  (((w.alloc (.cells #[.func (.func ks) #[] caps] 35)).alloc (.cells #[.string root] 9)).alloc (.cells #[.string lo] 9)).alloc (.cells #[.string hi] 9)
def betV (w : World) : Value := .func (.func 72) #[] #[.pointer (some ⟨w.heap.size, 0, none⟩), .pointer (some ⟨w.heap.size + 1, 0, none⟩), .pointer (some ⟨w.heap.size + 2, 0, none⟩), .pointer (some ⟨w.heap.size + 3, 0, none⟩)]
set_option maxRecDepth 100000 in
theorem between_calls (ks : Nat) (caps : Array Value) (root lo hi : ByteArray) (w : World) :
    Calls Tryd.prog 45 #[.func (.func ks) #[] caps, .string root, .string lo, .string hi] w fun e w' => e = .returned (betV w) ∧ w' = betW ks caps root lo hi w := by
  unfold betV betW
  go_enter Tryd.func45, Tryd.ntmps45
  go_wp2_with fail
  go_ret
  exact ⟨rfl, rfl⟩
set_option maxRecDepth 100000 in
theorem all_calls (ks : Nat) (caps : Array Value) (root lo : ByteArray) (w : World) :
    Calls Tryd.prog 16 #[.func (.func ks) #[] caps, .string root, .string lo] w fun e w' => e = .returned (betV w) ∧ w' = betW ks caps root lo ⟨#[]⟩ w := by
  go_enter Tryd.func16, Tryd.ntmps16
  go_wp2_with fail
  refine (between_calls ks caps root lo ⟨#[]⟩ w).mono ?_
  rintro e w' ⟨rfl, rfl⟩
  go_wp2_with fail
  go_ret
  exact ⟨rfl, rfl⟩
theorem betW_has (ks : Nat) (caps : Array Value) (root lo hi : ByteArray) (w : World) : Has (betW ks caps root lo hi w) w.heap.size [.func (.func ks) #[] caps] 35 ∧ Has (betW ks caps root lo hi w) (w.heap.size + 1) [.string root] 9 ∧ Has (betW ks caps root lo hi w) (w.heap.size + 2) [.string lo] 9 ∧ Has (betW ks caps root lo hi w) (w.heap.size + 3) [.string hi] 9 ∧
    Mod (fun _ => False) w (betW ks caps root lo hi w) ∧ (betW ks caps root lo hi w).heap.size = w.heap.size + 4 := by
  unfold betW
  refine ⟨(((Has.new w _ _).alloc _).alloc _).alloc _, ?_, ?_, Has.lit (by simp), ((((Mod.refl _ w).alloc _).alloc _).alloc _).alloc _, by simp⟩
  · exact (Has.alloc (Has.lit (by simp)) _).alloc _
  · exact (Has.lit (by simp) : Has _ _ _ _).alloc _
end Prolly
end Go.Proofs.YtpoljpjcmigobaaDoor
