/- The law NetPlays: frames come, are lost, turned, late, doubled, there and back, as the document says. -/
import Derived.Test.YtocpifoimoaibaaNetL
import Derived.Test.YtocpifoimoaibaaKt
namespace Go.Proofs.Ytocpifoimoaibaa
set_option linter.unusedVariables false
set_option linter.unusedSimpArgs false
open Go.RowKit K
namespace Net

/-- what one who takes his answers in turn keeps: which frames he met -/
structure Pl where
  B : Nat
  mb : Nat
  ab : Nat
  Aa : Option Addr
  ca : Nat
  ans : List ByteArray
def Pl.fp (d : Pl) (vm : Value) (k : Nat) : Prop := k = d.mb ∨ k = d.ab ∨ vm.ownBlock = some k ∨ ∃ a, d.Aa = some a ∧ a.block = k ∧ d.ans ≠ []
structure PlAt (d : Pl) (vm : Value) (met : List ByteArray) (w : World) : Prop where
  box : Has w d.mb [vm] 23
  own : w.ownsRow d.B 9 1 vm met.length (sv met)
  abox : Has w d.ab [.slice d.Aa d.ans.length d.ca] 23
  acells : Cells w d.Aa (sv d.ans)
  alt : ∀ a, d.Aa = some a → d.ans ≠ [] → a.block < w.heap.size
structure Pl.Ok (d : Pl) : Prop where
  mb : d.B ≤ d.mb
  ab : d.B ≤ d.ab
  ne : d.mb ≠ d.ab
  row : ∀ a, d.Aa = some a → d.ans ≠ [] → a.block < d.B
  size : ∀ s ∈ d.ans, s.size ≤ maxLen
  len : d.ans.length ≤ maxLen
def Pl.step (d : Pl) (met : List ByteArray) (s : ByteArray) : ByteArray × List ByteArray := (if d.ans = [] then s else d.ans.getD (met.length % d.ans.length) s, met ++ [s])
def Pl.V (d : Pl) : Srv (List ByteArray) where
  I := fun met F w => ∃ vm, PlAt d vm met w ∧ F = d.fp vm
  step := d.step
  cost := List.length
  Pt := fun s => s.size ≤ maxLen ∧ 0 < s.size
  Pb := fun s => s.size ≤ maxLen ∧ 0 < s.size
  ks := 8
  caps := #[.pointer (some ⟨d.mb, 0, none⟩), .pointer (some ⟨d.ab, 0, none⟩)]
  own := fun k => d.B ≤ k

theorem cells_keep_ne {w w' : World} {S : Nat → Prop} {A : Option Addr} {l : List ByteArray} (h : Cells w A (sv l)) (m : Mod S w w') (hs : ∀ a, A = some a → l ≠ [] → ¬ S a.block) : Cells w' A (sv l) := by
  by_cases hl : l = []
  · subst hl; exact .inl rfl
  · exact h.keep m (fun a ha => hs a ha hl)
theorem PlAt.keep {d : Pl} {vm : Value} {met : List ByteArray} {w w' : World} {S : Nat → Prop} (h : PlAt d vm met w) (m : Mod S w w') (hs : ∀ k, d.fp vm k → ¬ S k) : PlAt d vm met w' :=
  ⟨h.box.keep m (hs _ (.inl rfl)), own_keep h.own m (fun k _ hk => hs k (.inr (.inr (.inl hk)))), h.abox.keep m (hs _ (.inr (.inl rfl))), cells_keep_ne h.acells m (fun a ha hl => hs _ (.inr (.inr (.inr ⟨a, ha, rfl, hl⟩)))), fun a ha hl => Nat.lt_of_lt_of_le (h.alt a ha hl) m.size⟩

theorem Pl.ans_mem (d : Pl) (h : d.ans ≠ []) (met : List ByteArray) (s : ByteArray) : (d.step met s).1 ∈ d.ans := by
  have hl : 0 < d.ans.length := List.length_pos_iff.2 h
  have hm : met.length % d.ans.length < d.ans.length := Nat.mod_lt _ hl
  unfold Pl.step
  rw [if_neg h]
  simp [List.getD, hm]

theorem serve_done {d : Pl} (ok : d.Ok) {vm : Value} {met : List ByteArray} {s : ByteArray} {w w2 : World} {A2 : Option Addr} {c2 : Nat} (h : PlAt d vm met w)
    (hown2 : w2.ownsRow d.B 9 1 (.slice A2 (met.length + 1) c2) (met.length + 1) (sv met ++ [.string s])) (hm2 : Mod (fun k => vm.ownBlock = some k) (w.alloc (.cells #[.string s] 9)) w2) (hrow : RowOf (w.alloc (.cells #[.string s] 9)) vm (.slice A2 (met.length + 1) c2)) :
    Hid (PlAt d (.slice A2 (met.length + 1) c2) (met ++ [s]) (w2.setCell ⟨d.mb, 0, none⟩ (.slice A2 (met.length + 1) c2))) ∧ Hid (Mod (fun k => d.fp vm k ∧ d.B ≤ k) w (w2.setCell ⟨d.mb, 0, none⟩ (.slice A2 (met.length + 1) c2))) ∧ Hid (∀ k, d.fp (.slice A2 (met.length + 1) c2) k → d.fp vm k ∨ w.heap.size ≤ k) ∧
      w2.cell? ⟨d.mb, 0, none⟩ = some vm ∧ w2.frozen? ⟨d.mb, 0, none⟩ = false ∧ w2.cell? ⟨d.ab, 0, none⟩ = some (.slice d.Aa d.ans.length d.ca) ∧ Cells w2 d.Aa (sv d.ans) := by
  have hvne : ∀ k, vm.ownBlock = some k → k ≠ d.mb ∧ k ≠ d.ab := fun k hk => ⟨has_ne h.box (own_row h.own hk) (by decide), has_ne h.abox (own_row h.own hk) (by decide)⟩
  have hb2 := (h.box.alloc (.cells #[.string s] 9)).keep hm2 (fun hk => (hvne _ hk).1 rfl)
  have ha2 := (h.abox.alloc (.cells #[.string s] 9)).keep hm2 (fun hk => (hvne _ hk).2 rfl)
  have hc2 := cells_keep_ne (h.acells.alloc (.cells #[.string s] 9)) hm2 (fun a ha hl hk => by have := (h.own.lt _ hk).1; have := ok.row a ha hl; omega)
  have hmS : Mod (fun k => k = d.mb) w2 (w2.setCell ⟨d.mb, 0, none⟩ (.slice A2 (met.length + 1) c2)) := (Mod.refl (fun k => k = d.mb) w2).set1 rfl _ _
  have hne2 : ∀ k, (Value.slice A2 (met.length + 1) c2).ownBlock = some k → k ≠ d.mb := fun k hk => has_ne hb2 (own_row hown2 hk) (by decide)
  have hz : w.heap.size + 1 ≤ w2.heap.size := by have := hm2.size; simpa using this
  refine ⟨Lib.hid ⟨hb2.set 0 _, ?_, ha2.keep hmS (fun h => ok.ne h.symm), cells_keep_ne hc2 hmS (fun a ha hl h => by have := ok.row a ha hl; have := ok.mb; omega), fun a ha hl => ?_⟩, Lib.hid ?_, Lib.hid ?_, hb2.cell rfl, hb2.frozen 0, ha2.cell rfl, hc2⟩
  · rw [List.length_append, sv_app]
    exact own_keep hown2 hmS (fun k _ hk h => hne2 k hk h)
  · have := h.alt a ha hl
    show _ < (w2.setCell _ _).heap.size
    simp only [World.setCell, Array.size_modify]; omega
  · exact (Mod.trans (Mod.alloc (Mod.refl _ _) _) (hm2.mono (S' := fun k => d.fp vm k ∧ d.B ≤ k) fun k _ hk => ⟨.inr (.inr (.inl hk)), (h.own.lt k hk).1⟩) (fun _ _ h => h)).setCell (p := ⟨d.mb, 0, none⟩) (.inl ⟨.inl rfl, ok.mb⟩) _
  · rintro k (hk | hk | hk | hk)
    · exact .inl (.inl hk)
    · exact .inl (.inr (.inl hk))
    · rcases hrow k hk with h1 | h1
      · exact .inl (.inr (.inr (.inl h1)))
      · exact .inr (by simp at h1; omega)
    · exact .inl (.inr (.inr (.inr hk)))

set_option maxRecDepth 100000 in
set_option maxHeartbeats 1000000 in
theorem serve_calls (d : Pl) (ok : d.Ok) (vm : Value) (met : List ByteArray) (s : ByteArray) (w : World) (h : PlAt d vm met w) (hn : met.length ≤ 1000000) :
    Calls Try.prog 8 #[.string s, .pointer (some ⟨d.mb, 0, none⟩), .pointer (some ⟨d.ab, 0, none⟩)] w (d.V.post met s (d.fp vm) w) := by
  have h0 := h.box.cell (o := 0) rfl
  have hlt := h.box.lt
  have hbw : d.B ≤ w.heap.size := Nat.le_of_lt (Nat.lt_of_le_of_lt ok.mb hlt)
  have hown := h.own
  have hvne : ∀ k, vm.ownBlock = some k → k ≠ d.mb ∧ k ≠ d.ab := fun k hk => ⟨has_ne h.box (own_row h.own hk) (by decide), has_ne h.abox (own_row h.own hk) (by decide)⟩
  have HV := Lib.hid hvne
  have HP := Lib.hid h
  have hlen := ok.len
  unfold maxLen at hlen
  clear h hvne
  have hnab := ok.ne
  have hnba : ¬ d.ab = d.mb := fun h => ok.ne h.symm
  have hbm := ok.mb
  have hrow := ok.row
  have HRW := Lib.hid hrow
  clear hrow
  by_cases ha : d.ans = []
  · have hl0 : d.ans.length = 0 := by rw [ha]; rfl
    have hst : d.step met s = (s, met ++ [s]) := by unfold Pl.step; rw [if_pos ha]
    have HST := Lib.hid hst
    clear hst
    go_enter Try.func8, Try.ntmps8
    go_wp2_with (first
      | (at_builtin
         go_must (refine appG _ _ T_str d.B vm met.length (sv met) (hown.alloc _) _ 1 1 [.string s] rfl rfl rfl rfl rfl (cells_lit rfl) (by simp [Value.oneCell']) (by omega) (by unfold maxLen; omega) (by simp; omega) ?_; intro v2 w2 hown2 hm2 hrow)
         obtain ⟨A2, c2, rfl, hcp2, hcl2, _, _⟩ := own_cells hown2
         obtain ⟨HPN, HMN, HFN, x1, y1, x2, x3⟩ := serve_done ok HP.out hown2 hm2 hrow
         clear hown hown2 hm2 hrow hcl2
         rw [hl0] at x2))
    go_ret
    refine ⟨d.fp (.slice A2 (met.length + 1) c2), by show _ = Ending.returned (.string (d.step met s).1); rw [HST.out]; rfl, ⟨_, by show PlAt d _ (d.step met s).2 _; rw [HST.out]; exact HPN.out, rfl⟩, HMN.out, HFN.out⟩
  · have hpos : 0 < d.ans.length := List.length_pos_iff.2 ha
    have hst : d.step met s = (d.ans.getD (met.length % d.ans.length) s, met ++ [s]) := by unfold Pl.step; rw [if_neg ha]
    have HST := Lib.hid hst
    have hil : met.length % d.ans.length < d.ans.length := Nat.mod_lt _ hpos
    obtain ⟨i, hi⟩ : ∃ i, i = met.length % d.ans.length := ⟨_, rfl⟩
    rw [← hi] at hil
    have hii : (met.length : Int) % (d.ans.length : Int) = (i : Int) := by omega
    have hget : d.ans.getD (met.length % d.ans.length) s = d.ans[i] := by rw [← hi]; simp [List.getD, hil]
    have HG := Lib.hid hget
    have hcell : ∀ w' : World, Cells w' d.Aa (sv d.ans) → ∃ b o, d.Aa = some ⟨b, o, none⟩ ∧ w'.cell? ⟨b, o + i, none⟩ = some (.string d.ans[i]) := fun w' h => by
      rcases h with h | ⟨b, o, hA, h⟩
      · have := sv_len d.ans; rw [h] at this; simp at this; omega
      · exact ⟨b, o, hA, h i _ (sv_get d.ans i hil)⟩
    have HC := Lib.hid hcell
    have HI := Lib.hid hi
    have HII := Lib.hid hii
    clear hst hi hget hcell hii
    go_enter Try.func8, Try.ntmps8
    go_wp2_with (first
      | (at_builtin
         go_must (refine appG _ _ T_str d.B vm met.length (sv met) (hown.alloc _) _ 1 1 [.string s] rfl rfl rfl rfl rfl (cells_lit rfl) (by simp [Value.oneCell']) (by omega) (by unfold maxLen; omega) (by simp; omega) ?_; intro v2 w2 hown2 hm2 hrow)
         obtain ⟨A2, c2, rfl, hcp2, hcl2, _, _⟩ := own_cells hown2
         obtain ⟨HPN, HMN, HFN, x1, y1, x2, x3⟩ := serve_done ok HP.out hown2 hm2 hrow
         clear hown hown2 hm2 hrow hcl2
         obtain ⟨b, o, hAa, hx⟩ := HC.out _ x3
         rw [hAa] at x2
         have hbne : ¬ b = d.mb := fun h => by have := HRW.out _ hAa ha; dsimp only at this; omega
         have hAA := Lib.hid hAa
         have hpl : (0 : Int) < (d.ans.length : Int) := by omega
         have hp0 : ¬ (d.ans.length : Int) = 0 := by omega
         have hi0 : (0 : Int) ≤ (i : Int) := by omega
         have hi1 : (i : Int) < (d.ans.length : Int) := by omega
         clear x3 hAa))
    have hii := HII.out
    go_quiet (fail)
    go_wp2_with fail
    go_ret
    have hst : d.step met s = (d.ans[i], met ++ [s]) := by rw [HST.out, HG.out]
    refine ⟨d.fp (.slice A2 (met.length + 1) c2), by show _ = Ending.returned (.string (d.step met s).1); rw [hst]; rfl, ⟨_, by show PlAt d _ (d.step met s).2 _; rw [hst]; exact HPN.out.keep ((Mod.refl (fun _ => False) _).drewN nq) (fun _ _ h => h), rfl⟩, HMN.out.drewN nq, HFN.out⟩

theorem play_ok (d : Pl) (ok : d.Ok) : SrvOk d.V where
  keep := fun st F w w' S ⟨vm, h, hF⟩ m hs => ⟨vm, h.keep m (fun k hk => hs k (hF ▸ hk)), hF⟩
  lt := fun st F w k ⟨vm, h, hF⟩ hk => by
    subst hF
    rcases hk with rfl | rfl | hk | ⟨a, ha, rfl, hl⟩
    · exact h.box.lt
    · exact h.abox.lt
    · exact (h.own.lt k hk).2
    · exact h.alt a ha hl
  cost := fun st s => by show (st ++ [s]).length ≤ _; simp; exact Nat.le_refl _
  pt := fun s h => h
  pb := fun s h => h
  ptt := fun s a b h => by show _ ∧ _; rw [trnB_size]; exact h
  pbt := fun s a b h => by show _ ∧ _; rw [trnB_size]; exact h
  ans := fun st F w s _ h h0 => by
    refine ⟨?_, h0⟩
    by_cases ha : d.ans = []
    · show (d.step st s).1.size ≤ maxLen
      unfold Pl.step; rw [if_pos ha]; exact h.1
    · exact ok.size _ (d.ans_mem ha st s)
  enter := fun w s => by kernel_rfl
  call := fun st F w s ⟨vm, h, hF⟩ _ hn => by subst hF; exact serve_calls d ok vm st s w h hn
theorem play_ans (d : Pl) (ok : d.Ok) : ∀ (st : List ByteArray) c, d.V.Pt c → 0 < (d.V.step st c).1.size → d.V.Pb (d.V.step st c).1 := fun st s h h0 => by
  refine ⟨?_, h0⟩
  by_cases ha : d.ans = []
  · show (d.step st s).1.size ≤ maxLen
    unfold Pl.step; rw [if_pos ha]; exact h.1
  · exact ok.size _ (d.ans_mem ha st s)
end Net
end Go.Proofs.Ytocpifoimoaibaa
