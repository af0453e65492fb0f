/- Joined texts: ProC, ProD. -/
import Derived.Test.YtpoljpjcmigobaaDoorJ24
/- Who answers, as one thing within a call; the walk of prolly's load. -/
namespace Go.Proofs.YtpoljpjcmigobaaDoor
set_option linter.unusedVariables false
set_option linter.unusedSimpArgs false
open Go.RowKit K Wire
namespace Prolly
open Go.Proofs.YtpoljpjcmigobaaDoor.Obj Go.Proofs.YtpoljpjcmigobaaDoor.Blob

/-- who answers, since w0; it turns none of C -/
structure Gs (G : Gf) (w0 : World) (C : Nat → Prop) (a : List ByteArray) (w : World) : Prop where
  ex : ∃ F, G.I a F w ∧ ∀ k, C k → k < w.heap.size ∧ ¬ F k
  n : ∀ k, G.N k → k < w0.heap.size
theorem Gs.keep {G : Gf} {objs : List Ob} (ok : GfOk G objs) {w0 : World} {C : Nat → Prop} {a : List ByteArray} {w w' : World} {S : Nat → Prop} (h : Gs G w0 C a w) (m : Mod S w w') (hs : ∀ k, S k → C k ∧ ¬ G.N k) : Gs G w0 C a w' := by
  obtain ⟨⟨F, h1, h2⟩, h3⟩ := h
  exact ⟨⟨F, ok.keep _ _ _ _ _ h1 m (fun k hk hS => hk.elim (h2 k (hs k hS).1).2 (hs k hS).2), fun k hk => ⟨Nat.lt_of_lt_of_le (h2 k hk).1 m.size, (h2 k hk).2⟩⟩, h3⟩
theorem Gs.grow {G : Gf} {objs : List Ob} (ok : GfOk G objs) {w0 : World} {C : Nat → Prop} {a : List ByteArray} {w w' : World} (h : Gs G w0 C a w) (m : Mod (fun _ => False) w w') : Gs G w0 (fun k => C k ∨ (w.heap.size ≤ k ∧ k < w'.heap.size)) a w' := by
  obtain ⟨⟨F, h1, h2⟩, h3⟩ := h
  refine ⟨⟨F, ok.keep _ _ _ _ _ h1 m (fun _ _ h => h), fun k hk => ?_⟩, h3⟩
  rcases hk with hk | hk
  · exact ⟨Nat.lt_of_lt_of_le (h2 k hk).1 m.size, (h2 k hk).2⟩
  · exact ⟨hk.2, fun hf => by have := ok.lt _ _ _ _ h1 (.inl hf); omega⟩
theorem Gs.mono {G : Gf} {w0 : World} {C C' : Nat → Prop} {a : List ByteArray} {w : World} (h : Gs G w0 C a w) (hc : ∀ k, C' k → C k) : Gs G w0 C' a w := by
  obtain ⟨⟨F, h1, h2⟩, h3⟩ := h
  exact ⟨⟨F, h1, fun k hk => h2 k (hc k hk)⟩, h3⟩
theorem Gs.call {G : Gf} {objs : List Ob} (ok : GfOk G objs) {w0 : World} {C : Nat → Prop} {a : List ByteArray} {w : World} (h : Gs G w0 C a w) (s : ByteArray) (ha : a.length ≤ 1000000000) :
    Calls Tryd.prog G.ks (#[.string s] ++ G.caps) w fun e w' => e = .returned (.tuple #[.string (gotB (findL objs s)), .int .i64 (gotE (findL objs s))]) ∧ Gs G w0 C (a ++ [s]) w' ∧ Mod (fun k => ¬ C k) w w' := by
  obtain ⟨⟨F, h1, h2⟩, h3⟩ := h
  refine (ok.call _ _ _ s h1 ha).mono ?_
  rintro e w' ⟨rfl, F', h4, h5, h6⟩
  refine ⟨rfl, ⟨⟨F', h4, fun k hk => ⟨Nat.lt_of_lt_of_le (h2 k hk).1 h5.size, fun hf => ?_⟩⟩, h3⟩, h5.mono fun k _ hf hc => (h2 k hc).2 hf⟩
  rcases h6 k hf with h7 | h7
  · exact (h2 k hk).2 h7
  · have := (h2 k hk).1; omega

theorem own_len {w : World} {base e size n n' : Nat} {v : Value} {xs xs' : List Value} (hn : n = n') (hx : xs = xs') (h : w.ownsRow base e size v n xs) : w.ownsRow base e size v n' xs' := by subst hn; subst hx; exact h
theorem own_other {w w' : World} {base e size n b T : Nat} {v : Value} {xs cs : List Value} (h : w.ownsRow base e size v n xs) (hb : Has w b cs T) (hT : T ≠ e) (m : Mod (fun g => g = b) w w') : w'.ownsRow base e size v n xs :=
  own_keep h m (fun g _ hg e' => by subst e'; exact absurd rfl (has_ne hb (own_row h hg) hT))
theorem mon_nil {C C' : Nat → Prop} (h : ∀ g, C g → C' g) : ∀ g, (C g ∨ (Value.slice none 0 0).ownBlock = some g ∨ (Value.slice none 0 0).ownBlock = some g) → C' g := by
  rintro g (hg | hg | hg)
  · exact h g hg
  · cases hg
  · cases hg
theorem mon_row {C C' : Nat → Prop} {u v : Value} (h : ∀ g, C g → C' g) (h1 : ∀ g, u.ownBlock = some g → C' g) (h2 : ∀ g, v.ownBlock = some g → C' g) : ∀ g, (C g ∨ u.ownBlock = some g ∨ v.ownBlock = some g) → C' g := by
  rintro g (hg | hg | hg)
  · exact h g hg
  · exact h1 g hg
  · exact h2 g hg
def pnP : PNode → List Pair | .leaf ps => ps | _ => []
def pnL : PNode → Int | .branch L _ => L | _ => 0
def pnK : PNode → List Link | .branch _ k => k | _ => []
def pnE : PNode → Int | .bad e => e | _ => 0
def LoadPost (G : Gf) (w0 : World) (C : Nat → Prop) (a : List ByteArray) (k : Link) (n : PNode) (w : World) (e : Ending) (w' : World) : Prop :=
  ∃ vp vk, e = .returned (.tuple #[.agg #[vp, .int .i64 (pnL n), vk], .int .i64 (pnE n)]) ∧ w'.ownsRow w.heap.size 48 2 vp (pnP n).length ((pnP n).flatMap kc) ∧ w'.ownsRow w.heap.size 67 3 vk (pnK n).length ((pnK n).flatMap lc) ∧
    Gs G w0 (fun g => C g ∨ vp.ownBlock = some g ∨ vk.ownBlock = some g) (a ++ [k.id]) w' ∧ Mod (fun g => ¬ C g) w w'
/-- what a node that was read comes to -/
theorem pnodeB_eq (b : ByteArray) (k : Link) (level : Int) : pnodeB b k level =
    if okLeaf b.data.toList = true then (if fitsB (outLeaf b.data.toList) 0 [] k level = true then .leaf (outLeaf b.data.toList) else .bad 122)
    else if okBranch b.data.toList = true ∧ fitsB (outLeaf b.data.toList) (outBranch b.data.toList).1 (outBranch b.data.toList).2 k level = true then .branch (outBranch b.data.toList).1 (outBranch b.data.toList).2 else .bad 122 := by
  unfold pnodeB
  by_cases h : okLeaf b.data.toList = true
  · rw [if_pos h, if_pos h]
    unfold fitsB
    by_cases h1 : level < 0
    · simp [h1]
    · by_cases h2 : level = 0
      · subst h2; simp
      · simp [h1, h2]
  · rw [if_neg h, if_neg h]
    by_cases h3 : okBranch b.data.toList = true
    · have hf := (outBranch_facts b.data.toList).2.2.2.2.1 h3
      generalize outBranch b.data.toList = O at *
      obtain ⟨L, ks⟩ := O
      dsimp only at hf ⊢
      unfold fitsB
      by_cases h1 : level < 0
      · simp [h1, h3]
      · by_cases h2 : level = L
        · subst h2
          simp [h1, h3, show ¬ level = 0 by omega]
        · simp [h1, h2, h3, show ¬ L = level by omega]
    · simp [h3]

set_option maxRecDepth 100000 in
set_option maxHeartbeats 8000000 in
theorem load_calls {G : Gf} {objs : List Ob} (ok : GfOk G objs) (hob : ObsOk objs) {w0 : World} {C : Nat → Prop} (k : Link) (level : Int) (a : List ByteArray) (w : World) (hG : Gs G w0 C a w) (ha : a.length ≤ 1000000000) (h0 : w0.heap.size ≤ w.heap.size) :
    Calls Tryd.prog 36 #[.func (.func G.ks) #[] G.caps, .agg #[.string k.last, .string k.id, .int .i64 k.many], .int .i64 level] w (LoadPost G w0 C a k (pnodeOf objs k level) w) := by
  have hm2 := ((Mod.refl (fun _ => False) w).alloc (.cells #[.string k.last, .string k.id, .int .i64 k.many] 67)).alloc (.cells #[.slice none 0 0, .int .i64 0, .slice none 0 0] 80)
  have hbk : Has ((w.alloc (.cells #[.string k.last, .string k.id, .int .i64 k.many] 67)).alloc (.cells #[.slice none 0 0, .int .i64 0, .slice none 0 0] 80)) w.heap.size [.string k.last, .string k.id, .int .i64 k.many] 67 := (Has.new w _ _).alloc _
  have hbr : Has ((w.alloc (.cells #[.string k.last, .string k.id, .int .i64 k.many] 67)).alloc (.cells #[.slice none 0 0, .int .i64 0, .slice none 0 0] 80)) (w.heap.size + 1) [.slice none 0 0, .int .i64 0, .slice none 0 0] 80 := Has.lit (by simp)
  have hG2 := hG.grow ok hm2
  have HCL := Lib.hid (hG2.call ok k.id ha)
  have he := fun w' => ok.enter w' k.id
  have HCW : Hid (∀ g, C g → g < w.heap.size) := Lib.hid (fun g hg => by obtain ⟨⟨F, _, h⟩, _⟩ := hG; exact (h g hg).1)
  have x1 := hbk.cell (o := 1) rfl
  have HBK := Lib.hid hbk
  have HBR := Lib.hid hbr
  have HM2 := Lib.hid hm2
  obtain ⟨NN, hNN⟩ : ∃ NN, pnodeOf objs k level = NN := ⟨_, rfl⟩
  rw [hNN]
  have HNN := Lib.hid hNN
  unfold LoadPost
  have hsz : ((w.alloc (.cells #[.string k.last, .string k.id, .int .i64 k.many] 67)).alloc (.cells #[.slice none 0 0, .int .i64 0, .slice none 0 0] 80)).heap.size = w.heap.size + 2 := by simp
  clear hG hm2 hbk hbr hG2 hNN
  go_enter Tryd.func36, Tryd.ntmps36
  go_wp2_with fail
  refine HCL.out.mono ?_
  rintro e w3 ⟨rfl, hG3, hm3⟩
  rw [hsz] at hG3 hm3
  have hz3 : w.heap.size + 2 ≤ w3.heap.size := by have := hm3.size; rw [hsz] at this; exact this
  have hbk3 := HBK.out.keep hm3 (fun h => h (.inr ⟨by omega, by omega⟩))
  have hbr3 := HBR.out.keep hm3 (fun h => h (.inr ⟨by omega, by omega⟩))
  have hM3 : Mod (fun g => ¬ C g) w w3 := Mod.trans (HM2.out.mono fun _ _ h => h.elim) hm3 (fun i hi h hc => h (.inl hc))
  have HBK3 := Lib.hid hbk3
  have HBR3 := Lib.hid hbr3
  have HG3 := Lib.hid hG3
  have HM3 := Lib.hid hM3
  clear hbk3 hbr3 hG3 hM3 hm3 HBK HBR HM2 HCL x1
  cases hf : findL objs k.id with
  | none =>
    have hn : NN = .bad 3 := by rw [← HNN.out]; unfold pnodeOf; rw [hf]
    subst hn
    simp only [show gotE none = 3 from rfl, show gotB none = ⟨#[]⟩ from rfl]
    have hbR := HBR3.out
    have hmE := (((Mod.refl (fun g => g = w.heap.size + 1) w3).set1 rfl 0 (.slice none 0 0)).set1 rfl 1 (.int .i64 (0))).set1 rfl 2 (.slice none 0 0)
    have hb2 := ((hbR.set 0 (.slice none 0 0)).set 1 (.int .i64 (0))).set 2 (.slice none 0 0)
    have z0 := hb2.cell (o := 0) rfl
    have z1 := hb2.cell (o := 1) rfl
    have z2 := hb2.cell (o := 2) rfl
    have f0 := hbR.frozen 0
    have f1 := hbR.frozen 1
    have f2 := hbR.frozen 2
    have c0 := hbR.cell (o := 0) rfl
    have c1 := hbR.cell (o := 1) rfl
    have c2 := hbR.cell (o := 2) rfl
    have hGE := HG3.out.keep ok hmE (fun g hg => by subst hg; exact ⟨.inr ⟨by omega, by omega⟩, fun hn => by have := HG3.out.n _ hn; omega⟩)
    have HGE := Lib.hid hGE
    have HME := Lib.hid (Mod.trans HM3.out hmE (fun i hi e => by omega))
    have HMEE := Lib.hid hmE
    clear hbR hmE hb2 hGE
    go_wp2_with fail
    refine bodyPost_ret (v := .tuple #[.agg #[.slice none 0 0, .int .i64 (0), .slice none 0 0], .int .i64 3]) (by simp [results, Tryd.results36, go_sem, z0, z1, z2]) rfl ⟨_, _, rfl, World.ownsRow_nil _ _ _ _, World.ownsRow_nil _ _ _ _, HGE.out.mono (mon_nil (fun g hg => .inl hg)), HME.out⟩
  | some b =>
    have hbs : b.size ≤ 100000000 := by obtain ⟨o, ho, hb⟩ := findL_mem hf; rw [← hb]; exact hob.small o ho
    have hn : NN = pnodeB b k level := by rw [← HNN.out]; unfold pnodeOf; rw [hf]
    rw [pnodeB_eq] at hn
    simp only [show gotE (some b) = 0 from rfl, show gotB (some b) = b from rfl]
    clear HNN
    have HTL := Lib.hid (fun w1 => takeLeaf_calls b w1 hbs)
    have HTB := Lib.hid (fun w1 => takeBranch_calls b w1 hbs)
    go_wp2_with fail
    refine (HTL.out _).mono ?_
    rintro e w5 ⟨vp, rfl, hvp, hm5⟩
    have hbn := (Has.new w3 [.slice none 0 0, .int .i64 0, .slice none 0 0] 80).keep hm5 (fun h => h)
    have hm35 := Mod.trans ((Mod.refl (fun _ => False) w3).alloc (.cells #[.slice none 0 0, .int .i64 0, .slice none 0 0] 80)) hm5 (fun _ _ h => h)
    have hz5 : w3.heap.size + 1 ≤ w5.heap.size := by have := hbn.lt; omega
    have hG5 := HG3.out.grow ok hm35
    have hbk5 := HBK3.out.keep hm35 (fun h => h)
    have hbr5 := HBR3.out.keep hm35 (fun h => h)
    have hM5 := Mod.trans HM3.out (hm35.mono (S' := fun g => ¬ C g) fun _ _ h => h.elim) (fun _ _ h => h)
    have hof := outLeaf_facts b.data.toList
    have hbr := outBranch_facts b.data.toList
    have hlz : okLeaf b.data.toList = false → outLeaf b.data.toList = [] := fun h => by unfold outLeaf; rw [if_neg (by rw [h]; decide)]
    obtain ⟨ps, hps⟩ : ∃ ps, outLeaf b.data.toList = ps := ⟨_, rfl⟩
    rw [hps] at hvp hof hlz hn
    obtain ⟨Ap, cp, rfl, _, hcp, _, _⟩ := own_cells hvp
    have hms := (Mod.refl (fun g => g = w3.heap.size) w5).set1 rfl 0 (.slice Ap ps.length cp)
    have n0 := hbn.cell (o := 0) rfl
    have m0 := hbn.frozen 0
    have hbn6 := hbn.set 0 (.slice Ap ps.length cp)
    have hG6 := hG5.keep ok hms (fun g hg => by subst hg; exact ⟨.inr ⟨Nat.le_refl _, by omega⟩, fun hn => by have := hG5.n _ hn; omega⟩)
    have hvp6 := own_keep hvp hms (fun g hg hgb e => by subst e; exact absurd rfl (has_ne hbn (own_row hvp hgb) (by decide)))
    have hcp6 := hcp.keep2 hms (fun hne ad ha e => by
      have : (Value.slice Ap ps.length cp).ownBlock = some ad.block := by rw [ha]; rfl
      exact absurd e (has_ne hbn (own_row hvp this) (by decide)))
    have hbk6 := hbk5.other (p := ⟨w3.heap.size, 0, none⟩) (by show w.heap.size ≠ w3.heap.size; omega) (.slice Ap ps.length cp)
    have hbr6 := hbr5.other (p := ⟨w3.heap.size, 0, none⟩) (by show w.heap.size + 1 ≠ w3.heap.size; omega) (.slice Ap ps.length cp)
    have hM6 := Mod.trans hM5 hms (fun i hi e => by omega)
    have hsz6 : w5.heap.size ≤ (w5.setCell ⟨w3.heap.size, 0, none⟩ (.slice Ap ps.length cp)).heap.size := hms.size
    obtain ⟨w6, hw6⟩ : ∃ w6, w5.setCell ⟨w3.heap.size, 0, none⟩ (.slice Ap ps.length cp) = w6 := ⟨_, rfl⟩
    rw [hw6] at hbn6 hG6 hvp6 hcp6 hbk6 hbr6 hM6 hsz6
    have HBN6 := Lib.hid hbn6
    have HG6 := Lib.hid hG6
    have HVP6 := Lib.hid hvp6
    have HCP6 := Lib.hid hcp6
    have HBK6 := Lib.hid hbk6
    have HBR6 := Lib.hid hbr6
    have HM6 := Lib.hid hM6
    have HOF := Lib.hid hof
    have HBF := Lib.hid hbr
    have hpb : ∀ g, (Value.slice Ap ps.length cp).ownBlock = some g → w3.heap.size ≤ g ∧ g < w5.heap.size := fun g hg => by have := hvp.lt g hg; simp at this; omega
    have HPB := Lib.hid hpb
    clear hbn hm35 hG5 hbk5 hbr5 hM5 hof hbr hvp hcp hms hbn6 hG6 hvp6 hcp6 hbk6 hbr6 hM6 hm5 HTL hpb HBK3 HBR3 HG3 HM3
    cases hl : okLeaf b.data.toList with
    | true =>
      rw [if_pos hl] at hn
      have hF := fits_calls Ap none cp 0 ps 0 [] k level w6 HCP6.out (.inl rfl) HOF.out.1 (by simp) (fun _ h => by cases h) (fun h => absurd rfl h)
      rw [show ([] : List Link).length = 0 from rfl] at hF
      have HF := Lib.hid hF
      clear hF
      have nn0 := HBN6.out.cell (o := 0) rfl
      have nn1 := HBN6.out.cell (o := 1) rfl
      have nn2 := HBN6.out.cell (o := 2) rfl
      have kk0 := HBK6.out.cell (o := 0) rfl
      have kk1 := HBK6.out.cell (o := 1) rfl
      have kk2 := HBK6.out.cell (o := 2) rfl
      simp only [errV, if_true]
      clear hl HBF HTB hlz
      subst hw6
      go_wp2_with fail
      refine HF.out.mono ?_
      rintro e w7 ⟨rfl, hm7⟩
      have hvp7 : w7.ownsRow w.heap.size 48 2 (.slice Ap ps.length cp) ps.length (ps.flatMap kc) := own_base (own_keep HVP6.out hm7 (fun _ _ _ h => h)) (by simp; omega)
      have HVP7 := Lib.hid hvp7
      have HG7 := Lib.hid (HG6.out.keep ok hm7 (fun _ h => h.elim))
      have HBR7 := Lib.hid (HBR6.out.keep hm7 (fun h => h))
      have HBN7 := HBN6.out.keep hm7 (fun h => h)
      have HM7 := Lib.hid (Mod.trans HM6.out hm7 (fun _ _ h => h.elim))
      clear nn0 nn1 nn2 kk0 kk1 kk2
      have nn0 := HBN7.cell (o := 0) rfl
      have nn1 := HBN7.cell (o := 1) rfl
      have nn2 := HBN7.cell (o := 2) rfl
      clear hvp7 hm7 HF HBN7
      cases hfb : fitsB ps 0 [] k level with
      | true =>
        rw [if_pos hfb] at hn
        subst hn
        clear hfb
        have hbR := HBR7.out
        have hmE := (((Mod.refl (fun g => g = w.heap.size + 1) w7).set1 rfl 0 (.slice Ap ps.length cp)).set1 rfl 1 (.int .i64 (0))).set1 rfl 2 (.slice none 0 0)
        have hb2 := ((hbR.set 0 (.slice Ap ps.length cp)).set 1 (.int .i64 (0))).set 2 (.slice none 0 0)
        have z0 := hb2.cell (o := 0) rfl
        have z1 := hb2.cell (o := 1) rfl
        have z2 := hb2.cell (o := 2) rfl
        have f0 := hbR.frozen 0
        have f1 := hbR.frozen 1
        have f2 := hbR.frozen 2
        have c0 := hbR.cell (o := 0) rfl
        have c1 := hbR.cell (o := 1) rfl
        have c2 := hbR.cell (o := 2) rfl
        have hGE := HG7.out.keep ok hmE (fun g hg => by subst hg; exact ⟨.inl (.inr ⟨by omega, by omega⟩), fun hn => by have := HG7.out.n _ hn; omega⟩)
        have HGE := Lib.hid hGE
        have HME := Lib.hid (Mod.trans HM7.out hmE (fun i hi e => by omega))
        have HMEE := Lib.hid hmE
        clear hbR hmE hb2 hGE
        go_wp2_with fail
        refine bodyPost_ret (v := .tuple #[.agg #[.slice Ap ps.length cp, .int .i64 (0), .slice none 0 0], .int .i64 0]) (by simp [results, Tryd.results36, go_sem, z0, z1, z2]) rfl ⟨_, _, rfl, own_other HVP7.out HBR7.out (by decide) HMEE.out, World.ownsRow_nil _ _ _ _, HGE.out.mono (mon_row (fun g hg => .inl (.inl hg)) (fun g hg => .inr (HPB.out g hg)) (fun g hg => by cases hg)), HME.out⟩
      | false =>
        rw [if_neg (by rw [hfb]; decide)] at hn
        subst hn
        clear hfb
        have hbR := HBR7.out
        have hmE := (((Mod.refl (fun g => g = w.heap.size + 1) w7).set1 rfl 0 (.slice none 0 0)).set1 rfl 1 (.int .i64 (0))).set1 rfl 2 (.slice none 0 0)
        have hb2 := ((hbR.set 0 (.slice none 0 0)).set 1 (.int .i64 (0))).set 2 (.slice none 0 0)
        have z0 := hb2.cell (o := 0) rfl
        have z1 := hb2.cell (o := 1) rfl
        have z2 := hb2.cell (o := 2) rfl
        have f0 := hbR.frozen 0
        have f1 := hbR.frozen 1
        have f2 := hbR.frozen 2
        have c0 := hbR.cell (o := 0) rfl
        have c1 := hbR.cell (o := 1) rfl
        have c2 := hbR.cell (o := 2) rfl
        have hGE := HG7.out.keep ok hmE (fun g hg => by subst hg; exact ⟨.inl (.inr ⟨by omega, by omega⟩), fun hn => by have := HG7.out.n _ hn; omega⟩)
        have HGE := Lib.hid hGE
        have HME := Lib.hid (Mod.trans HM7.out hmE (fun i hi e => by omega))
        have HMEE := Lib.hid hmE
        clear hbR hmE hb2 hGE
        go_wp2_with fail
        refine bodyPost_ret (v := .tuple #[.agg #[.slice none 0 0, .int .i64 (0), .slice none 0 0], .int .i64 122]) (by simp [results, Tryd.results36, go_sem, z0, z1, z2]) rfl ⟨_, _, rfl, World.ownsRow_nil _ _ _ _, World.ownsRow_nil _ _ _ _, HGE.out.mono (mon_nil (fun g hg => .inl (.inl hg))), HME.out⟩
    | false =>
      rw [if_neg (by rw [hl]; decide)] at hn
      obtain rfl : ps = [] := hlz hl
      simp only [errV, if_false, Bool.false_eq_true, List.length_nil] at HBN6 HVP6 HPB ⊢
      have nn0 := HBN6.out.cell (o := 0) rfl
      clear hl hlz
      subst hw6
      go_wp2_with fail
      refine (HTB.out _).mono ?_
      rintro e w7 ⟨vk, rfl, hvk, hm7⟩
      obtain ⟨O, hO⟩ : ∃ O, outBranch b.data.toList = O := ⟨_, rfl⟩
      obtain ⟨OB, hOB⟩ : ∃ OB, okBranch b.data.toList = OB := ⟨_, rfl⟩
      obtain ⟨L, kids⟩ := O
      have hbf := HBF.out
      simp only [hO, hOB] at hvk hn hbf ⊢
      obtain ⟨Ak, ck, rfl, _, hck, _, _⟩ := own_cells hvk
      have hbn7 := HBN6.out.keep hm7 (fun h => h)
      have hvp7 := own_keep HVP6.out hm7 (fun _ _ _ h => h)
      have hz7 := hm7.size
      have hG7 := HG6.out.grow ok hm7
      have hbk7 := HBK6.out.keep hm7 (fun h => h)
      have hbr7 := HBR6.out.keep hm7 (fun h => h)
      have hM7 := Mod.trans HM6.out hm7 (fun _ _ h => h.elim)
      have hms := ((Mod.refl (fun g => g = w3.heap.size) w7).set1 rfl 1 (.int .i64 L)).set1 rfl 2 (.slice Ak kids.length ck)
      have n1 := hbn7.cell (o := 1) rfl
      have m1 := hbn7.frozen 1
      have n2 := hbn7.cell (o := 2) rfl
      have m2 := hbn7.frozen 2
      have hbn8 := (hbn7.set 1 (.int .i64 L)).set 2 (.slice Ak kids.length ck)
      have hG8 := hG7.keep ok hms (fun g hg => by subst hg; exact ⟨.inl (.inr ⟨Nat.le_refl _, by omega⟩), fun hn => by have := hG7.n _ hn; omega⟩)
      have hvk8 := own_keep hvk hms (fun g hg hgb e => by subst e; exact absurd rfl (has_ne hbn7 (own_row hvk hgb) (by decide)))
      have hvp8 := own_other hvp7 hbn7 (by decide) hms
      have hck8 := hck.keep2 hms (fun hne ad ha e => by
        have : (Value.slice Ak kids.length ck).ownBlock = some ad.block := by rw [ha]; rfl
        exact absurd e (has_ne hbn7 (own_row hvk this) (by decide)))
      have hbk8 := (hbk7.other (p := ⟨w3.heap.size, 1, none⟩) (by show w.heap.size ≠ w3.heap.size; omega) (.int .i64 L)).other (p := ⟨w3.heap.size, 2, none⟩) (by show w.heap.size ≠ w3.heap.size; omega) (.slice Ak kids.length ck)
      have hbr8 := (hbr7.other (p := ⟨w3.heap.size, 1, none⟩) (by show w.heap.size + 1 ≠ w3.heap.size; omega) (.int .i64 L)).other (p := ⟨w3.heap.size, 2, none⟩) (by show w.heap.size + 1 ≠ w3.heap.size; omega) (.slice Ak kids.length ck)
      have hM8 := Mod.trans hM7 hms (fun i hi e => by omega)
      obtain ⟨w8, hw8⟩ : ∃ w8, (w7.setCell ⟨w3.heap.size, 1, none⟩ (.int .i64 L)).setCell ⟨w3.heap.size, 2, none⟩ (.slice Ak kids.length ck) = w8 := ⟨_, rfl⟩
      have hkb : ∀ g, (Value.slice Ak kids.length ck).ownBlock = some g → (w5.setCell ⟨w3.heap.size, 0, none⟩ (.slice Ap 0 cp)).heap.size ≤ g ∧ g < w7.heap.size := fun g hg => hvk.lt g hg
      rw [hw8] at hbn8 hG8 hvp8 hvk8 hck8 hbk8 hbr8 hM8
      have HBN8 := Lib.hid hbn8
      have HG8 := Lib.hid hG8
      have HVK8 := Lib.hid hvk8
      have HCK8 := Lib.hid hck8
      have HVP8 := Lib.hid hvp8
      have HBK8 := Lib.hid hbk8
      have HBR8 := Lib.hid hbr8
      have HM8 := Lib.hid hM8
      have HBF2 := Lib.hid hbf
      have HKB := Lib.hid hkb
      clear hvp7 hvp8 hbn7 hG7 hbk7 hbr7 hM7 hms hbn8 hG8 hvk hvk8 hck hck8 hbk8 hbr8 hM8 hm7 hbf hkb hO hOB HTB HBF HBN6 HG6 HBK6 HBR6 HM6 HCP6 HVP6 nn0
      cases OB with
      | false =>
        rw [if_neg (fun h => by cases h.1)] at hn
        subst hn
        simp only [show errV false = Value.int .i64 81 from rfl]
        subst hw8
        have hbR := HBR8.out
        have hmE := (((Mod.refl (fun g => g = w.heap.size + 1) ((w7.setCell ⟨w3.heap.size, 1, none⟩ (.int .i64 L)).setCell ⟨w3.heap.size, 2, none⟩ (.slice Ak kids.length ck))).set1 rfl 0 (.slice none 0 0)).set1 rfl 1 (.int .i64 (0))).set1 rfl 2 (.slice none 0 0)
        have hb2 := ((hbR.set 0 (.slice none 0 0)).set 1 (.int .i64 (0))).set 2 (.slice none 0 0)
        have z0 := hb2.cell (o := 0) rfl
        have z1 := hb2.cell (o := 1) rfl
        have z2 := hb2.cell (o := 2) rfl
        have f0 := hbR.frozen 0
        have f1 := hbR.frozen 1
        have f2 := hbR.frozen 2
        have c0 := hbR.cell (o := 0) rfl
        have c1 := hbR.cell (o := 1) rfl
        have c2 := hbR.cell (o := 2) rfl
        have hGE := HG8.out.keep ok hmE (fun g hg => by subst hg; exact ⟨.inl (.inl (.inr ⟨by omega, by omega⟩)), fun hn => by have := HG8.out.n _ hn; omega⟩)
        have HGE := Lib.hid hGE
        have HME := Lib.hid (Mod.trans HM8.out hmE (fun i hi e => by omega))
        have HMEE := Lib.hid hmE
        clear hbR hmE hb2 hGE
        go_wp2_with fail
        refine bodyPost_ret (v := .tuple #[.agg #[.slice none 0 0, .int .i64 (0), .slice none 0 0], .int .i64 122]) (by simp [results, Tryd.results36, go_sem, z0, z1, z2]) rfl ⟨_, _, rfl, World.ownsRow_nil _ _ _ _, World.ownsRow_nil _ _ _ _, HGE.out.mono (mon_nil (fun g hg => .inl (.inl (.inl hg)))), HME.out⟩
      | true =>
        have hF := fits_calls Ap Ak cp ck [] L kids k level w8 (.inl rfl) HCK8.out (by simp) HBF2.out.1 (fun k hk => ⟨(HBF2.out.2.2.2.1 k hk).1, (HBF2.out.2.2.2.1 k hk).2.1⟩) (fun _ => by have := (HBF2.out.2.2.2.2.1 rfl).2.2; omega)
        rw [show ([] : List Pair).length = 0 from rfl] at hF
        have HF := Lib.hid hF
        clear hF
        simp only [true_and] at hn
        simp only [show errV true = Value.int .i64 0 from rfl]
        have nn0 := HBN8.out.cell (o := 0) rfl
        have nn1 := HBN8.out.cell (o := 1) rfl
        have nn2 := HBN8.out.cell (o := 2) rfl
        have kk0 := HBK8.out.cell (o := 0) rfl
        have kk1 := HBK8.out.cell (o := 1) rfl
        have kk2 := HBK8.out.cell (o := 2) rfl
        subst hw8
        go_wp2_with fail
        refine HF.out.mono ?_
        rintro e w9 ⟨rfl, hm9⟩
        have hvk9 : w9.ownsRow w.heap.size 67 3 (.slice Ak kids.length ck) kids.length (kids.flatMap lc) := own_base (own_keep HVK8.out hm9 (fun _ _ _ h => h)) (by have h := hsz6; simp only [List.length_nil] at h; omega)
        have HVK9 := Lib.hid hvk9
        have HVP9 : Hid (w9.ownsRow w.heap.size 48 2 (.slice Ap 0 cp) 0 []) := Lib.hid (own_base (own_keep HVP8.out hm9 (fun _ _ _ h => h)) (by simp; omega))
        have HG9 := Lib.hid (HG8.out.keep ok hm9 (fun _ h => h.elim))
        have HBR9 := Lib.hid (HBR8.out.keep hm9 (fun h => h))
        have HBN9 := HBN8.out.keep hm9 (fun h => h)
        have HM9 := Lib.hid (Mod.trans HM8.out hm9 (fun _ _ h => h.elim))
        clear nn0 nn1 nn2 kk0 kk1 kk2
        have nn0 := HBN9.cell (o := 0) rfl
        have nn1 := HBN9.cell (o := 1) rfl
        have nn2 := HBN9.cell (o := 2) rfl
        clear hvk9 hm9 HF HBN9
        cases hfb : fitsB [] L kids k level with
        | true =>
          rw [if_pos hfb] at hn
          subst hn
          clear hfb
          have hbR := HBR9.out
          have hmE := (((Mod.refl (fun g => g = w.heap.size + 1) w9).set1 rfl 0 (.slice Ap 0 cp)).set1 rfl 1 (.int .i64 (L))).set1 rfl 2 (.slice Ak kids.length ck)
          have hb2 := ((hbR.set 0 (.slice Ap 0 cp)).set 1 (.int .i64 (L))).set 2 (.slice Ak kids.length ck)
          have z0 := hb2.cell (o := 0) rfl
          have z1 := hb2.cell (o := 1) rfl
          have z2 := hb2.cell (o := 2) rfl
          have f0 := hbR.frozen 0
          have f1 := hbR.frozen 1
          have f2 := hbR.frozen 2
          have c0 := hbR.cell (o := 0) rfl
          have c1 := hbR.cell (o := 1) rfl
          have c2 := hbR.cell (o := 2) rfl
          have hGE := HG9.out.keep ok hmE (fun g hg => by subst hg; exact ⟨.inl (.inl (.inr ⟨by omega, by omega⟩)), fun hn => by have := HG9.out.n _ hn; omega⟩)
          have HGE := Lib.hid hGE
          have HME := Lib.hid (Mod.trans HM9.out hmE (fun i hi e => by omega))
          have HMEE := Lib.hid hmE
          clear hbR hmE hb2 hGE
          go_wp2_with fail
          refine bodyPost_ret (v := .tuple #[.agg #[.slice Ap 0 cp, .int .i64 (L), .slice Ak kids.length ck], .int .i64 0]) (by simp [results, Tryd.results36, go_sem, z0, z1, z2]) rfl ⟨_, _, rfl, own_other HVP9.out HBR9.out (by decide) HMEE.out, own_other HVK9.out HBR9.out (by decide) HMEE.out, HGE.out.mono (mon_row (fun g hg => .inl (.inl (.inl hg))) (fun g hg => .inl (.inr (HPB.out g hg))) (fun g hg => .inr (HKB.out g hg))), HME.out⟩
        | false =>
          rw [if_neg (by rw [hfb]; decide)] at hn
          subst hn
          clear hfb
          have hbR := HBR9.out
          have hmE := (((Mod.refl (fun g => g = w.heap.size + 1) w9).set1 rfl 0 (.slice none 0 0)).set1 rfl 1 (.int .i64 (0))).set1 rfl 2 (.slice none 0 0)
          have hb2 := ((hbR.set 0 (.slice none 0 0)).set 1 (.int .i64 (0))).set 2 (.slice none 0 0)
          have z0 := hb2.cell (o := 0) rfl
          have z1 := hb2.cell (o := 1) rfl
          have z2 := hb2.cell (o := 2) rfl
          have f0 := hbR.frozen 0
          have f1 := hbR.frozen 1
          have f2 := hbR.frozen 2
          have c0 := hbR.cell (o := 0) rfl
          have c1 := hbR.cell (o := 1) rfl
          have c2 := hbR.cell (o := 2) rfl
          have hGE := HG9.out.keep ok hmE (fun g hg => by subst hg; exact ⟨.inl (.inl (.inr ⟨by omega, by omega⟩)), fun hn => by have := HG9.out.n _ hn; omega⟩)
          have HGE := Lib.hid hGE
          have HME := Lib.hid (Mod.trans HM9.out hmE (fun i hi e => by omega))
          have HMEE := Lib.hid hmE
          clear hbR hmE hb2 hGE
          go_wp2_with fail
          refine bodyPost_ret (v := .tuple #[.agg #[.slice none 0 0, .int .i64 (0), .slice none 0 0], .int .i64 122]) (by simp [results, Tryd.results36, go_sem, z0, z1, z2]) rfl ⟨_, _, rfl, World.ownsRow_nil _ _ _ _, World.ownsRow_nil _ _ _ _, HGE.out.mono (mon_nil (fun g hg => .inl (.inl (.inl hg)))), HME.out⟩
end Prolly
end Go.Proofs.YtpoljpjcmigobaaDoor
/- The walks of cmp.Compare of texts, of slices.BinarySearchFunc at links and at pairs. -/
namespace Go.Proofs.YtpoljpjcmigobaaDoor
set_option linter.unusedVariables false
set_option linter.unusedSimpArgs false
open Go.RowKit K Wire
namespace Prolly
open Go.Proofs.YtpoljpjcmigobaaDoor.Obj Go.Proofs.YtpoljpjcmigobaaDoor.Blob

def cmpS (a b : ByteArray) : Int := if ltS a b then -1 else if a = b then 0 else 1
theorem cmpS_lt (a b : ByteArray) : cmpS a b < 0 ↔ ltS a b = true := by
  unfold cmpS
  split
  · rename_i h; simp [h]
  · rename_i h; split <;> simp [h]
theorem cmpS_eq (a b : ByteArray) : cmpS a b = 0 ↔ a = b := by
  unfold cmpS
  split
  · rename_i h
    constructor
    · intro h2; omega
    · rintro rfl; rw [ltS_irrefl] at h; cases h
  · split <;> simp_all
def lessB (key : ByteArray) (l : List ByteArray) (t : Nat) : Bool := if t < l.length then ltS (l.getD t ByteArray.empty) key else false
def foundB (key : ByteArray) (l : List ByteArray) : Bool := decide (below key l < l.length ∧ l.getD (below key l) ByteArray.empty = key)
set_option maxRecDepth 100000 in
theorem isNaN_calls (x : ByteArray) (w : World) : Calls Tryd.prog 69 #[.string x] w fun e w' => e = .returned (.bool false) ∧ w' = w := by
  go_enter Tryd.func69, Tryd.ntmps69
  go_wp2_with fail
  go_ret
  exact ⟨by simp, rfl⟩
set_option maxRecDepth 100000 in
theorem compare_calls (x y : ByteArray) (w : World) : Calls Tryd.prog 39 #[.string x, .string y] w fun e w' => e = .returned (.int .i64 (cmpS x y)) ∧ w' = w := by
  have HN := Lib.hid (fun x => isNaN_calls x w)
  cases h : ltS x y with
  | true =>
    have h1 : Go.Op.bytesLess x.toList y.toList = true := h
    rw [show cmpS x y = -1 by unfold cmpS; rw [h]; rfl]
    clear h
    go_enter Tryd.func39, Tryd.ntmps39
    go_wp2_with fail
    refine (HN.out x).mono ?_
    rintro e w' ⟨rfl, rfl⟩
    go_wp2_with fail
    refine (HN.out y).mono ?_
    rintro e w' ⟨rfl, rfl⟩
    go_wp2_with fail
    go_ret
    exact ⟨rfl, rfl⟩
  | false =>
    have h1 : Go.Op.bytesLess x.toList y.toList = false := h
    by_cases he : x = y
    · have h2 : (x.toList == y.toList) = true := (Lib.bytes_beq_iff _ _).2 he
      rw [show cmpS x y = 0 by unfold cmpS; rw [h]; simp [he]]
      clear h he
      go_enter Tryd.func39, Tryd.ntmps39
      go_wp2_with fail
      refine (HN.out x).mono ?_
      rintro e w' ⟨rfl, rfl⟩
      go_wp2_with fail
      refine (HN.out y).mono ?_
      rintro e w' ⟨rfl, rfl⟩
      go_wp2_with fail
      go_ret
      exact ⟨rfl, rfl⟩
    · have h2 : (x.toList == y.toList) = false := (Lib.bytes_beq_false_iff _ _).2 he
      rw [show cmpS x y = 1 by unfold cmpS; rw [h]; simp [he]]
      clear h he
      go_enter Tryd.func39, Tryd.ntmps39
      go_wp2_with fail
      refine (HN.out x).mono ?_
      rintro e w' ⟨rfl, rfl⟩
      go_wp2_with fail
      refine (HN.out y).mono ?_
      rintro e w' ⟨rfl, rfl⟩
      go_wp2_with fail
      go_ret
      exact ⟨rfl, rfl⟩
set_option maxRecDepth 100000 in
theorem find1_calls (k : Link) (key : ByteArray) (w : World) : Calls Tryd.prog 38 #[.agg #[.string k.last, .string k.id, .int .i64 k.many], .string key] w fun e w' => e = .returned (.int .i64 (cmpS k.last key)) ∧ Mod (fun _ => False) w w' := by
  have HC := Lib.hid (compare_calls k.last key)
  go_enter Tryd.func38, Tryd.ntmps38
  go_wp2_with fail
  refine (HC.out _).mono ?_
  rintro e w' ⟨rfl, rfl⟩
  go_wp2_with fail
  go_ret
  exact ⟨rfl, by (repeat (first | with_reducible exact Mod.refl _ _ | with_reducible apply Mod.drew | with_reducible apply Mod.drewN | with_reducible apply Mod.alloc | refine Mod.set1 ?_ (by first | exact rfl | simp) _ _))⟩
set_option maxRecDepth 100000 in
theorem find2_calls (k : Pair) (key : ByteArray) (w : World) : Calls Tryd.prog 41 #[.agg #[.string k.key, .string k.val], .string key] w fun e w' => e = .returned (.int .i64 (cmpS k.key key)) ∧ Mod (fun _ => False) w w' := by
  have HC := Lib.hid (compare_calls k.key key)
  go_enter Tryd.func41, Tryd.ntmps41
  go_wp2_with fail
  refine (HC.out _).mono ?_
  rintro e w' ⟨rfl, rfl⟩
  go_wp2_with fail
  go_ret
  exact ⟨rfl, by (repeat (first | with_reducible exact Mod.refl _ _ | with_reducible apply Mod.drew | with_reducible apply Mod.drewN | with_reducible apply Mod.alloc | refine Mod.set1 ?_ (by first | exact rfl | simp) _ _))⟩
set_option maxRecDepth 100000 in
set_option maxHeartbeats 4000000 in
theorem searchL_calls (A : Option Addr) (c : Nat) (l : List Link) (key : ByteArray) (w : World) (hA : Cells w A (l.flatMap lc)) (hc : l.length ≤ 64) (hr : rises (l.map (·.last)) = true) :
    Calls Tryd.prog 37 #[.slice A l.length c, .string key, .func (.func 38) #[] #[]] w fun e w' =>
      e = .returned (.tuple #[.int .i64 (below key (l.map (·.last)) : Nat), .bool (foundB key (l.map (·.last)))]) ∧ Mod (fun _ => False) w w' := by
  have hbs := bs_below hr (lessB key (l.map (·.last))) (fun t ht => by unfold lessB; rw [if_pos ht]) (fun t ht => by unfold lessB; rw [if_neg (by omega)])
  rw [List.length_map] at hbs
  obtain ⟨I, hI⟩ : ∃ I, below key (l.map (·.last)) = I := ⟨_, rfl⟩
  have hfd : foundB key (l.map (·.last)) = decide (∃ h : I < l.length, (l[I]).last = key) := by
    unfold foundB
    rw [hI]
    congr 1
    rw [eq_iff_iff]
    constructor
    · rintro ⟨h1, h2⟩
      rw [List.length_map] at h1
      exact ⟨h1, by rw [← h2]; simp [List.getD, h1]⟩
    · rintro ⟨h1, h2⟩
      exact ⟨by simpa using h1, by rw [← h2]; simp [List.getD, h1]⟩
  rw [hfd]
  rw [hI] at hbs ⊢
  obtain ⟨E, hE⟩ : ∃ E, decide (∃ h : I < l.length, (l[I]).last = key) = E := ⟨_, rfl⟩
  rw [hE]
  have HE := Lib.hid hE
  clear hE
  have HBS := Lib.hid hbs
  have HA := Lib.hid hA
  clear hA hr hbs hI hfd
  go_enter Tryd.func37, Tryd.ntmps37
  go_wp2_with fail
  go_loopw [9, 10] (fun i j wr => ∃ lo hi g : Nat, i = .int .i64 lo ∧ j = .int .i64 hi ∧ lo ≤ hi ∧ hi ≤ l.length ∧ hi - lo ≤ g ∧ Hid (Lib.bsGo (lessB key (l.map (·.last))) g lo hi = I) ∧ Hid (Mod (fun _ => False) w wr)) (fun i j _ => (intOf j).toNat - (intOf i).toNat)
  case atStart => exact ⟨0, l.length, l.length, by go_num, rfl, by omega, by omega, by omega, HBS, Lib.hid (Mod.refl _ _)⟩
  case round =>
    obtain ⟨lo, hi, g, rfl, rfl, hlh, hhl, hg, HB, HM⟩ := hrel
    by_cases hlt : lo < hi
    · have i1 : (lo : Int) < (hi : Int) := by omega
      obtain ⟨m, hm⟩ : ∃ m, (lo + hi) / 2 = m := ⟨_, rfl⟩
      have hm1 : m < hi := by omega
      have hm2 : lo ≤ m := by omega
      obtain ⟨g', rfl⟩ : ∃ g', g = g' + 1 := ⟨g - 1, by omega⟩
      have hb := HB.out
      simp only [Lib.bsGo, if_pos hlt, hm] at hb
      rcases HA.out.keep HM.out (fun _ _ h => h) with h | ⟨ba, o, rfl, hcell⟩
      · have := flat_len lc_len l; rw [h] at this; simp at this; omega
      have mi : ((lo : Int) + (hi : Int)) / 2 = (m : Int) := by omega
      have m0 : (0 : Int) ≤ (m : Int) := by omega
      have m1 : (m : Int) < (l.length : Int) := by omega
      have hml : m < l.length := by omega
      have y0 := hcell _ _ (flat_get lc_len l m 0 hml (by omega))
      have y1 := hcell _ _ (flat_get lc_len l m 1 hml (by omega))
      have y2 := hcell _ _ (flat_get lc_len l m 2 hml (by omega))
      rw [Nat.add_zero] at y0
      rw [← Nat.add_assoc] at y1 y2
      have hle : lessB key (l.map (·.last)) m = ltS (l[m]).last key := by
        unfold lessB; rw [if_pos (by simpa using hml)]; simp [List.getD, hml]
      rw [hle] at hb
      generalize l[m] = p at *
      have HP := Lib.hid (find1_calls p key)
      have hcs := cmpS_lt p.last key
      obtain ⟨z, hz⟩ : ∃ z, cmpS p.last key = z := ⟨_, rfl⟩
      rw [hz] at hcs
      simp only [hz] at HP
      have HB2 := Lib.hid hb
      clear hcell hb hle hz HB
      cases hlt2 : ltS p.last key with
      | true =>
        have z1 : z < 0 := hcs.2 hlt2
        have hb := HB2.out
        rw [hlt2, if_pos rfl] at hb
        have HB3 := Lib.hid hb
        clear hb hlt2 HB2 hcs
        go_wp2_with fail
        refine (HP.out _).mono ?_
        rintro e w1 ⟨rfl, hm1'⟩
        have HM2 := Lib.hid (Mod.trans HM.out hm1' (fun _ _ h => h))
        clear hm1'
        go_wp2_with fail
        go_roundw
        case rel => exact ⟨m + 1, hi, g', by go_num, rfl, by omega, by omega, by omega, HB3, HM2⟩
        case measure => simp [intOf]; omega
      | false =>
        have z1 : ¬ z < 0 := fun h => by rw [hcs.1 h] at hlt2; cases hlt2
        have hb := HB2.out
        rw [hlt2, if_neg (by decide)] at hb
        have HB3 := Lib.hid hb
        clear hb hlt2 HB2 hcs
        go_wp2_with fail
        refine (HP.out _).mono ?_
        rintro e w1 ⟨rfl, hm1'⟩
        have HM2 := Lib.hid (Mod.trans HM.out hm1' (fun _ _ h => h))
        clear hm1'
        go_wp2_with fail
        go_roundw
        case rel => exact ⟨lo, m, g', rfl, by go_num, by omega, by omega, by omega, HB3, HM2⟩
        case measure => simp [intOf]; omega
    · have i1 : ¬ (lo : Int) < (hi : Int) := by omega
      obtain rfl : lo = hi := by omega
      have hIe : lo = I := by
        have := HB.out
        cases g <;> simpa [Lib.bsGo] using this
      subst hIe
      by_cases hn : lo < l.length
      · have j1 : (lo : Int) < (l.length : Int) := by omega
        have m0 : (0 : Int) ≤ (lo : Int) := by omega
        rcases HA.out.keep HM.out (fun _ _ h => h) with h | ⟨ba, o, rfl, hcell⟩
        · have := flat_len lc_len l; rw [h] at this; simp at this; omega
        obtain ⟨m, hm⟩ : ∃ m, lo = m := ⟨_, rfl⟩
        have hml : m < l.length := by omega
        have y0 := hcell _ _ (flat_get lc_len l m 0 hml (by omega))
        have y1 := hcell _ _ (flat_get lc_len l m 1 hml (by omega))
        have y2 := hcell _ _ (flat_get lc_len l m 2 hml (by omega))
        rw [Nat.add_zero] at y0
        rw [← Nat.add_assoc] at y1 y2
        subst hm
        have hE : decide ((l[lo]).last = key) = E := by
          rw [← HE.out]
          congr 1
          exact propext ⟨fun h => ⟨hn, h⟩, fun ⟨_, h⟩ => h⟩
        clear HE
        generalize l[lo] = p at *
        have HP := Lib.hid (find1_calls p key)
        have hcs := cmpS_eq p.last key
        obtain ⟨z, hz⟩ : ∃ z, cmpS p.last key = z := ⟨_, rfl⟩
        rw [hz] at hcs
        simp only [hz] at HP
        have z1 : (z == 0) = E := by
          rw [← hE]
          cases h : decide (p.last = key) with
          | true => simpa using hcs.2 (of_decide_eq_true h)
          | false => simpa using fun h2 => of_decide_eq_false h (hcs.1 h2)
        clear hcell hz hcs hE HB
        go_wp2_with fail
        refine (HP.out _).mono ?_
        rintro e w1 ⟨rfl, hm1'⟩
        have HM2 := Lib.hid (Mod.trans HM.out hm1' (fun _ _ h => h))
        clear hm1'
        go_wp2_with fail
        go_ret2
        exact ⟨rfl, HM2.out⟩
      · have j1 : ¬ (lo : Int) < (l.length : Int) := by omega
        have hE : E = false := by rw [← HE.out]; exact decide_eq_false (fun ⟨h, _⟩ => hn h)
        subst hE
        clear HE HB
        go_wp2_with fail
        go_ret2
        exact ⟨rfl, HM.out⟩
set_option maxRecDepth 100000 in
set_option maxHeartbeats 4000000 in
theorem searchP_calls (A : Option Addr) (c : Nat) (l : List Pair) (key : ByteArray) (w : World) (hA : Cells w A (l.flatMap kc)) (hc : l.length ≤ 64) (hr : rises (l.map (·.key)) = true) :
    Calls Tryd.prog 40 #[.slice A l.length c, .string key, .func (.func 41) #[] #[]] w fun e w' =>
      e = .returned (.tuple #[.int .i64 (below key (l.map (·.key)) : Nat), .bool (foundB key (l.map (·.key)))]) ∧ Mod (fun _ => False) w w' := by
  have hbs := bs_below hr (lessB key (l.map (·.key))) (fun t ht => by unfold lessB; rw [if_pos ht]) (fun t ht => by unfold lessB; rw [if_neg (by omega)])
  rw [List.length_map] at hbs
  obtain ⟨I, hI⟩ : ∃ I, below key (l.map (·.key)) = I := ⟨_, rfl⟩
  have hfd : foundB key (l.map (·.key)) = decide (∃ h : I < l.length, (l[I]).key = key) := by
    unfold foundB
    rw [hI]
    congr 1
    rw [eq_iff_iff]
    constructor
    · rintro ⟨h1, h2⟩
      rw [List.length_map] at h1
      exact ⟨h1, by rw [← h2]; simp [List.getD, h1]⟩
    · rintro ⟨h1, h2⟩
      exact ⟨by simpa using h1, by rw [← h2]; simp [List.getD, h1]⟩
  rw [hfd]
  rw [hI] at hbs ⊢
  obtain ⟨E, hE⟩ : ∃ E, decide (∃ h : I < l.length, (l[I]).key = key) = E := ⟨_, rfl⟩
  rw [hE]
  have HE := Lib.hid hE
  clear hE
  have HBS := Lib.hid hbs
  have HA := Lib.hid hA
  clear hA hr hbs hI hfd
  go_enter Tryd.func40, Tryd.ntmps40
  go_wp2_with fail
  go_loopw [9, 10] (fun i j wr => ∃ lo hi g : Nat, i = .int .i64 lo ∧ j = .int .i64 hi ∧ lo ≤ hi ∧ hi ≤ l.length ∧ hi - lo ≤ g ∧ Hid (Lib.bsGo (lessB key (l.map (·.key))) g lo hi = I) ∧ Hid (Mod (fun _ => False) w wr)) (fun i j _ => (intOf j).toNat - (intOf i).toNat)
  case atStart => exact ⟨0, l.length, l.length, by go_num, rfl, by omega, by omega, by omega, HBS, Lib.hid (Mod.refl _ _)⟩
  case round =>
    obtain ⟨lo, hi, g, rfl, rfl, hlh, hhl, hg, HB, HM⟩ := hrel
    by_cases hlt : lo < hi
    · have i1 : (lo : Int) < (hi : Int) := by omega
      obtain ⟨m, hm⟩ : ∃ m, (lo + hi) / 2 = m := ⟨_, rfl⟩
      have hm1 : m < hi := by omega
      have hm2 : lo ≤ m := by omega
      obtain ⟨g', rfl⟩ : ∃ g', g = g' + 1 := ⟨g - 1, by omega⟩
      have hb := HB.out
      simp only [Lib.bsGo, if_pos hlt, hm] at hb
      rcases HA.out.keep HM.out (fun _ _ h => h) with h | ⟨ba, o, rfl, hcell⟩
      · have := flat_len kc_len l; rw [h] at this; simp at this; omega
      have mi : ((lo : Int) + (hi : Int)) / 2 = (m : Int) := by omega
      have m0 : (0 : Int) ≤ (m : Int) := by omega
      have m1 : (m : Int) < (l.length : Int) := by omega
      have hml : m < l.length := by omega
      have y0 := hcell _ _ (flat_get kc_len l m 0 hml (by omega))
      have y1 := hcell _ _ (flat_get kc_len l m 1 hml (by omega))
      rw [Nat.add_zero] at y0
      rw [← Nat.add_assoc] at y1
      have hle : lessB key (l.map (·.key)) m = ltS (l[m]).key key := by
        unfold lessB; rw [if_pos (by simpa using hml)]; simp [List.getD, hml]
      rw [hle] at hb
      generalize l[m] = p at *
      have HP := Lib.hid (find2_calls p key)
      have hcs := cmpS_lt p.key key
      obtain ⟨z, hz⟩ : ∃ z, cmpS p.key key = z := ⟨_, rfl⟩
      rw [hz] at hcs
      simp only [hz] at HP
      have HB2 := Lib.hid hb
      clear hcell hb hle hz HB
      cases hlt2 : ltS p.key key with
      | true =>
        have z1 : z < 0 := hcs.2 hlt2
        have hb := HB2.out
        rw [hlt2, if_pos rfl] at hb
        have HB3 := Lib.hid hb
        clear hb hlt2 HB2 hcs
        go_wp2_with fail
        refine (HP.out _).mono ?_
        rintro e w1 ⟨rfl, hm1'⟩
        have HM2 := Lib.hid (Mod.trans HM.out hm1' (fun _ _ h => h))
        clear hm1'
        go_wp2_with fail
        go_roundw
        case rel => exact ⟨m + 1, hi, g', by go_num, rfl, by omega, by omega, by omega, HB3, HM2⟩
        case measure => simp [intOf]; omega
      | false =>
        have z1 : ¬ z < 0 := fun h => by rw [hcs.1 h] at hlt2; cases hlt2
        have hb := HB2.out
        rw [hlt2, if_neg (by decide)] at hb
        have HB3 := Lib.hid hb
        clear hb hlt2 HB2 hcs
        go_wp2_with fail
        refine (HP.out _).mono ?_
        rintro e w1 ⟨rfl, hm1'⟩
        have HM2 := Lib.hid (Mod.trans HM.out hm1' (fun _ _ h => h))
        clear hm1'
        go_wp2_with fail
        go_roundw
        case rel => exact ⟨lo, m, g', rfl, by go_num, by omega, by omega, by omega, HB3, HM2⟩
        case measure => simp [intOf]; omega
    · have i1 : ¬ (lo : Int) < (hi : Int) := by omega
      obtain rfl : lo = hi := by omega
      have hIe : lo = I := by
        have := HB.out
        cases g <;> simpa [Lib.bsGo] using this
      subst hIe
      by_cases hn : lo < l.length
      · have j1 : (lo : Int) < (l.length : Int) := by omega
        have m0 : (0 : Int) ≤ (lo : Int) := by omega
        rcases HA.out.keep HM.out (fun _ _ h => h) with h | ⟨ba, o, rfl, hcell⟩
        · have := flat_len kc_len l; rw [h] at this; simp at this; omega
        obtain ⟨m, hm⟩ : ∃ m, lo = m := ⟨_, rfl⟩
        have hml : m < l.length := by omega
        have y0 := hcell _ _ (flat_get kc_len l m 0 hml (by omega))
        have y1 := hcell _ _ (flat_get kc_len l m 1 hml (by omega))
        rw [Nat.add_zero] at y0
        rw [← Nat.add_assoc] at y1
        subst hm
        have hE : decide ((l[lo]).key = key) = E := by
          rw [← HE.out]
          congr 1
          exact propext ⟨fun h => ⟨hn, h⟩, fun ⟨_, h⟩ => h⟩
        clear HE
        generalize l[lo] = p at *
        have HP := Lib.hid (find2_calls p key)
        have hcs := cmpS_eq p.key key
        obtain ⟨z, hz⟩ : ∃ z, cmpS p.key key = z := ⟨_, rfl⟩
        rw [hz] at hcs
        simp only [hz] at HP
        have z1 : (z == 0) = E := by
          rw [← hE]
          cases h : decide (p.key = key) with
          | true => simpa using hcs.2 (of_decide_eq_true h)
          | false => simpa using fun h2 => of_decide_eq_false h (hcs.1 h2)
        clear hcell hz hcs hE HB
        go_wp2_with fail
        refine (HP.out _).mono ?_
        rintro e w1 ⟨rfl, hm1'⟩
        have HM2 := Lib.hid (Mod.trans HM.out hm1' (fun _ _ h => h))
        clear hm1'
        go_wp2_with fail
        go_ret2
        exact ⟨rfl, HM2.out⟩
      · have j1 : ¬ (lo : Int) < (l.length : Int) := by omega
        have hE : E = false := by rw [← HE.out]; exact decide_eq_false (fun ⟨h, _⟩ => hn h)
        subst hE
        clear HE HB
        go_wp2_with fail
        go_ret2
        exact ⟨rfl, HM.out⟩
end Prolly
end Go.Proofs.YtpoljpjcmigobaaDoor
