/- Joined texts: ProllyAllL. -/
import Derived.Test.YtpoljpjcmigobaaDoorJ39
/- The walk of the law ProllyAll. -/
namespace Go.Proofs.YtpoljpjcmigobaaDoor
set_option linter.unusedVariables false
set_option linter.unusedSimpArgs false
open Go.RowKit K Wire
namespace Prolly
open Go.Proofs.YtpoljpjcmigobaaDoor.Obj Go.Proofs.YtpoljpjcmigobaaDoor.Blob
attribute [local go_sem] Oper.semAt_some

set_option maxRecDepth 100000 in
set_option maxHeartbeats 8000000 in
theorem prollyAll_calls (A : Option Addr) (c : Nat) (objs : List Ob) (root lo : ByteArray) (most : Int) (w : World) (hK : Hash.Keys w) (hO : ObjsIn w A objs) (_ : root.size ≤ 1048576) (_ : lo.size ≤ 1048576) :
    Calls Tryd.prog 5 #[.slice A objs.length c, .string root, .string lo, .int .i64 most] w fun e w' => e = .returned (.bool true) ∧ Below w.heap.size w w' := by
  have hob := obsIn hO
  have hlen := listL_len objs lo ⟨#[]⟩ root
  have hrr := fun (w2 : World) (h1 : Cells w2 A (objs.flatMap oc)) (h2 : objs.flatMap oc ≠ [] → ∀ ad, A = some ad → ad.block < w2.heap.size) => rList_calls A c objs hob root lo ⟨#[]⟩ w2 h1 h2
  unfold ListPost at hrr
  have hall := fun (a' : List ByteArray) (out : List Pair) (e : Int) (pe : Option Code) (h : iterS (toldS stepA) objs lo ⟨#[]⟩ root [] (([], 0), none) = (a', (out, e), pe)) => all_list objs lo ⟨#[]⟩ root h
  have hear := fun (a' : List ByteArray) (n : Nat) (pe : Option Code) (h : iterS (toldS (stepN (goesR objs lo ⟨#[]⟩ root).out most)) objs lo ⟨#[]⟩ root [] (0, none) = (a', n, pe)) => early_list objs lo ⟨#[]⟩ root most h
  have hwg : (listL objs lo ⟨#[]⟩ root).2.2 = 0 → (listL objs lo ⟨#[]⟩ root).1 = (goesR objs lo ⟨#[]⟩ root).out := fun h => by unfold listL at h ⊢; exact if_pos h
  generalize listL objs lo ⟨#[]⟩ root = R at *
  generalize (goesR objs lo ⟨#[]⟩ root).out = GOT at *
  obtain ⟨want, ids, E⟩ := R
  dsimp only at hlen hrr hall hear hwg
  have HALL := Lib.hid hall
  have HEAR := Lib.hid hear
  have HWG := Lib.hid hwg
  clear hall hear hwg
  have HRR := Lib.hid hrr
  have HO := Lib.hid hO
  have HK := Lib.hid hK
  have hw0 := ((Mod.refl (fun _ => False) w).alloc (.cells #[.int .i64 most] 3)).alloc (.cells #[.bool false] 4)
  have HK2 := Lib.hid (hK.keep hw0 (fun h => h))
  have HW0 := Lib.hid hw0
  clear hrr hO hK hw0
  refine (callsIn_wide (n := 3)).1 ?_
  refine callsIn_of_wp_marks Tryd.func5 rfl trivial ?_
  simp only [Tryd.ntmps5, List.size_toArray, List.length_cons, List.length_nil, Nat.reduceAdd, Nat.reduceSub, Array.replicate_succ, Array.replicate_zero, List.push_toArray, List.append_toArray, List.nil_append, List.cons_append]
  refine wpIn_wide.2 ?_
  go_wp2_with fail
  refine (shown_calls _ HK2.out).mono ?_
  rintro e w2 ⟨rfl, hm2⟩
  have HM2 := Lib.hid (Mod.trans HW0.out hm2 (fun _ _ h => h))
  have h7 := (Has.alloc (Has.new w [.int .i64 most] 3) (.cells #[.bool false] 4)).keep hm2 (fun h => h)
  have h8 := (Has.lit (w := w.alloc (.cells #[.int .i64 most] 3)) (n := w.heap.size + 1) (cs := [.bool false]) (T := 4) (by simp)).keep hm2 (fun h => h)
  have H7 := Lib.hid h7
  have H8 := Lib.hid h8
  clear hm2 h7 h8 HK2 HW0 HK
  go_wp2_with fail
  refine (asked_mk _ _ _ _ _).mono ?_
  rintro e w3 ⟨rfl, rfl⟩
  go_wp2_with fail
  refine (all_calls _ _ _ _ _).mono ?_
  rintro e w4 ⟨rfl, rfl⟩
  obtain ⟨W3, hW3⟩ : ∃ W3, ((w2.alloc (.cells #[.slice none 0 0] 32)).alloc (.cells #[.slice A objs.length c] 25)).alloc (.cells #[.pointer (some ⟨w2.heap.size, 0, none⟩)] 37) = W3 := ⟨_, rfl⟩
  have hG := ask_begin (c := c) (B := w.heap.size) (HO.out.row.keep HM2.out (fun _ _ h => h)) HO.out.low HM2.out.size (by have := HO.out.many; omega)
  have hm3 : Mod (fun _ => False) w2 W3 := by rw [← hW3]; exact (((Mod.refl (fun _ => False) w2).alloc _).alloc _).alloc _
  have hz3 : W3.heap.size = w2.heap.size + 3 := by rw [← hW3]; simp
  rw [hW3] at hG ⊢
  clear hW3
  obtain ⟨k0, k1, k2, k3, k4, k5⟩ := betW_has 42 #[.pointer (some ⟨w2.heap.size + 1 + 1, 0, none⟩), .pointer (some ⟨w2.heap.size + 1, 0, none⟩)] root lo ⟨#[]⟩ W3
  obtain ⟨W4, hW4⟩ : ∃ W4, betW 42 #[.pointer (some ⟨w2.heap.size + 1 + 1, 0, none⟩), .pointer (some ⟨w2.heap.size + 1, 0, none⟩)] root lo ⟨#[]⟩ W3 = W4 := ⟨_, rfl⟩
  rw [hW4] at k0 k1 k2 k3 k4 k5 ⊢
  have hm34 := Mod.trans hm3 k4 (fun _ _ h => h)
  obtain ⟨⟨F, ⟨v3, hI3, rfl⟩, hF3⟩, _⟩ := hG
  have hI4 : AskIs w.heap.size w2.heap.size (w2.heap.size + 1 + 1) (w2.heap.size + 1) A c objs v3 [] W4 := hI3.keep k4 (fun _ _ h => h)
  obtain ⟨A3, c3, rfl, _, _, _, _⟩ := own_cells hI4.own
  have hFg : ∀ g, (Value.slice A3 0 c3).ownBlock = some g → g = w2.heap.size := fun g hg => Decidable.byContradiction fun hne => (hF3 g ⟨by have h1 := (hI3.own.lt g hg).2; omega, hne⟩).2 (.inr hg)
  have x0 := hI4.at0.cell (o := 0) rfl
  have q0 : ∀ w', (eqGuard .eql 43 (.tmp 27) (.const .nilFunc) (betV W3) .nilFunc).run Tryd.prog w' = .ok () w' := fun w' => by kernel_rfl
  have q1 : ∀ w', (binOp .eql 43 (betV W3) .nilFunc).run Tryd.prog w' = .ok (.bool false) w' := fun w' => by kernel_rfl
  have HI4 := Lib.hid hI4
  have HF3 := Lib.hid hF3
  have HK03 := Lib.hid (And.intro k0 (And.intro k1 (And.intro k2 k3)))
  have HM34 := Lib.hid hm34
  have HR := Lib.hid (HRR.out W4 hI4.row (fun hne ad ha => Nat.lt_of_lt_of_le (HO.out.low hne ad ha) (Nat.le_trans HM2.out.size hm34.size)))
  clear hI4 hF3 k0 k1 k2 k3 hm34 hI3 hm3 k4 hW4 HRR
  go_wp2_with fail
  refine HR.out.mono ?_
  rintro e w5 ⟨vw, vi, rfl, hvw, hvi, hm5⟩
  obtain ⟨Aw, cw, rfl, _, hcw, _, _⟩ := own_cells hvw
  obtain ⟨Ai, ci, rfl, hci0, hci, hai, _⟩ := own_cells hvi
  have HM5 := Lib.hid hm5
  have HCW := Lib.hid (And.intro hcw (row_blocks hvw))
  have HLI := Lib.hid (row_blocks hvi)
  have HCI := Lib.hid (And.intro hci0 (And.intro hci hai))
  clear hm5 hcw hci hai hci0 hvw hvi HR x0 q0 q1
  go_wp2_with fail
  obtain ⟨W6, hW6⟩ : ∃ W6, (w5.alloc (.cells #[.slice none 0 0] 22)).alloc (.cells #[.int .i64 0] 26) = W6 := ⟨_, rfl⟩
  have d15 : Has W6 w5.heap.size [.slice none 0 0] 22 := by rw [← hW6]; exact (Has.new w5 _ _).alloc _
  have d16 : Has W6 (w5.heap.size + 1) [.int .i64 0] 26 := by rw [← hW6]; exact Has.lit (by simp)
  have hm56 : Mod (fun _ => False) w5 W6 := by rw [← hW6]; exact ((Mod.refl _ w5).alloc _).alloc _
  have hz6 : W6.heap.size = w5.heap.size + 2 := by rw [← hW6]; simp
  rw [hW6]
  have hm46 := Mod.trans HM5.out hm56 (fun _ _ h => h)
  have hm26 := Mod.trans HM34.out hm46 (fun _ _ h => h)
  have hI6 := HI4.out.keep hm46 (fun _ _ h => h)
  have d8 := H8.out.keep hm26 (fun h => h)
  have hu : i1 (w.heap.size + 1) w5.heap.size (w5.heap.size + 1) ([], 0) (fun k => k = w.heap.size + 1 ∨ k = w5.heap.size ∨ k = w5.heap.size + 1 ∨ (Value.slice none 0 0).ownBlock = some k) W6 := ⟨_, d8, d15, d16, World.ownsRow_nil _ _ _ _, rfl⟩
  have l8 := H8.out.lt
  have l45 := HM5.out.size
  have lw2 := HM2.out.size
  have hN1 : ∀ g, (askF w.heap.size w2.heap.size (w2.heap.size + 1 + 1) (w2.heap.size + 1) A c objs).N g → g < w.heap.size ∨ g = w2.heap.size + 1 ∨ g = w2.heap.size + 2 := by
    rintro g (h | h | ⟨hne, ad, ha, rfl⟩)
    · exact .inr (.inr h)
    · exact .inr (.inl h)
    · exact .inl (HO.out.low hne ad ha)
  refine range_of (gf := 72) rfl (fun args w => by kernel_rfl) ?_
  intro fn
  refine (loop_iter (I := i1 (w.heap.size + 1) w5.heap.size (w5.heap.size + 1)) (step := stepA) (cnt := cntA) (askF_ok w.heap.size w2.heap.size (w2.heap.size + 1 + 1) (w2.heap.size + 1) A c objs) hob root lo ⟨#[]⟩ (C := fun k => k < W6.heap.size ∧ k ≠ w2.heap.size ∧ k ≠ w.heap.size + 1 ∧ k ≠ w5.heap.size ∧ k ≠ w5.heap.size + 1) (a := []) (s := ([], 0))
    rfl i1_keep i1_lt cntA_step ⟨_, hI6, rfl⟩ hu ?ap ?aq (fun k hk => hk.1) (by simp) (by simp [cntA]) _ _ _ _ (HK03.out.1.keep hm46 (fun h => h)) (HK03.out.2.1.keep hm46 (fun h => h)) (HK03.out.2.2.1.keep hm46 (fun h => h)) (HK03.out.2.2.2.keep hm46 (fun h => h)) ?body).mono ?after
  case ap =>
    rintro g hg
    obtain rfl : g = w2.heap.size := hg.elim id (hFg g)
    refine ⟨?_, fun h => h.2.1 rfl⟩
    rintro (h | h | h | h)
    · omega
    · omega
    · omega
    · cases h
  case aq =>
    rintro g (rfl | rfl | rfl | h)
    · exact ⟨fun hn => by have := hN1 _ hn; omega, fun h => h.2.2.1 rfl⟩
    · exact ⟨fun hn => by have := hN1 _ hn; omega, fun h => h.2.2.2.1 rfl⟩
    · exact ⟨fun hn => by have := hN1 _ hn; omega, fun h => h.2.2.2.2 rfl⟩
    · cases h
  case body =>
    intro m s Fu W k v e hI hcn hl hlt
    obtain ⟨vo, a1, a2, a3, a4, rfl⟩ := hI
    obtain ⟨out, e9⟩ := s
    obtain rfl : e9 = 0 := Decidable.byContradiction fun hne => by unfold cntA at hcn; rw [if_neg hne] at hcn; omega
    have hln : out.length ≤ 1000000 := by unfold cntA at hcn; simpa using hcn
    have hbs : w5.heap.size ≤ W.heap.size := Nat.le_of_lt a2.lt
    dsimp only at a3 a4
    rw [hz6] at hl hlt ⊢
    generalize w5.heap.size + 2 + 1 = l at hl hlt ⊢
    generalize w5.heap.size + 1 = b16 at a3 hl ⊢
    generalize w5.heap.size = b15 at a2 hl hbs ⊢
    generalize w.heap.size + 1 = b8 at a1 hl ⊢
    clear hu hz6 hW6 d8 d15 d16 hm56 hm46 hm26 hI6 l8 l45 lw2 hN1 fn k5 hz3 hFg
    gi_wp2
    refine ⟨(Mod.refl _ W).alloc _, fun o => ?_⟩
    obtain ⟨W2, hW2⟩ : ∃ W2, (W.alloc (.cells #[.string k, .string v] 48)).putObj l o = W2 := ⟨_, rfl⟩
    have hm2 : Mod (fun g => g = l) W W2 := by rw [← hW2]; exact ((Mod.refl (fun g => g = l) W).alloc _).putObj (.inl rfl) _
    have hz2 : W2.heap.size = W.heap.size + 1 := by rw [← hW2]; simp
    have hp : Has W2 W.heap.size [.string k, .string v] 48 := by rw [← hW2]; exact (Has.new W _ _).keep ((Mod.refl (fun g => g = l) _).putObj (.inl rfl) _) (by omega)
    have d1 := a1.keep hm2 (fun e => hl (by subst e; exact .inl rfl))
    have d2 := a2.keep hm2 (fun e => hl (by subst e; exact .inr (.inl rfl)))
    have d3 := a3.keep hm2 (fun e => hl (by subst e; exact .inr (.inr (.inl rfl))))
    have d4 := own_keep a4 hm2 (fun g _ hg e => hl (by subst e; exact .inr (.inr (.inr hg))))
    rw [hW2]
    have p0 := hp.cell (o := 0) rfl
    have p1 := hp.cell (o := 1) rfl
    have x1 := d1.cell (o := 0) rfl
    have x2 := d2.cell (o := 0) rfl
    have x3 := d3.cell (o := 0) rfl
    have y1 := d1.frozen 0
    have y2 := d2.frozen 0
    have y3 := d3.frozen 0
    have D1 := Lib.hid d1
    have D2 := Lib.hid d2
    have D3 := Lib.hid d3
    have D4 := Lib.hid d4
    have m8 : b15 ≠ b8 := has_ne2 d1 d2 (by decide)
    have m9 : b16 ≠ b8 := has_ne2 d1 d3 (by decide)
    have m10 : b16 ≠ b15 := has_ne2 d2 d3 (by decide)
    clear a1 a2 a3 a4 d1 d2 d3 d4 hm2 hp hW2
    by_cases he : e = 0
    · have hs : stepA (out, 0) ⟨k, v⟩ e = (none, (out ++ [⟨k, v⟩], 0)) := by simp [stepA, he]
      rw [hs]
      subst he
      gi_wp2_with (gi_at_builtin; refine appG_in (.tmp 59) (.tmp 61) pair_t 0 vo out.length (out.flatMap kc) (D4.out.alloc _) ⟨W.heap.size + 1, 0, none⟩ 1 1 [.string k, .string v] rfl rfl rfl rfl rfl (cells_lit (w := W2) hz2) (by intro u hu; simp at hu; rcases hu with rfl | rfl <;> rfl) (by omega) (by unfold maxLen; omega) (by simp) ?_)
      intro v5 w5 ho5 hm5 hr5
      obtain ⟨A5, c5, rfl, _, _, _, _⟩ := own_cells ho5
      have n1 : vo.ownBlock ≠ some b8 := fun e => absurd rfl (cell_of_has D1.out D4.out e (by decide))
      have n2 : vo.ownBlock ≠ some b15 := fun e => absurd rfl (cell_of_has D2.out D4.out e (by decide))
      have n3 : vo.ownBlock ≠ some b16 := fun e => absurd rfl (cell_of_has D3.out D4.out e (by decide))
      have e1 := (D1.out.alloc (.cells #[.string k, .string v] 48)).keep hm5 n1
      have e2 := (D2.out.alloc (.cells #[.string k, .string v] 48)).keep hm5 n2
      have e3 := (D3.out.alloc (.cells #[.string k, .string v] 48)).keep hm5 n3
      have z2 := e2.cell (o := 0) rfl
      have f2 := e2.frozen 0
      gi_wp2
      have hms := (Mod.refl (fun g => g = b15) w5).set1 rfl 0 (.slice A5 (out.length + 1) c5)
      refine ⟨rfl, _, ⟨_, e1.keep hms (fun e => m8 e.symm), e2.set 0 _, e3.keep hms m10, own_store (own_len (by simp) (by simp [kc]) ho5) e2 (by decide) 0 _, rfl⟩, ?_, ?_⟩
      · refine Mod.trans (((Mod.refl _ W2).alloc _)) (Mod.trans (hm5.mono (S' := fun g => g = b8 ∨ g = b15 ∨ g = b16 ∨ vo.ownBlock = some g) (fun _ _ h => .inr (.inr (.inr h)))) (hms.mono (S' := fun g => g = b8 ∨ g = b15 ∨ g = b16 ∨ vo.ownBlock = some g) (fun _ _ h => .inr (.inl h))) (fun _ _ h => h)) (fun _ _ h => h)
      · rintro g (h | h | h | h)
        · exact .inl (.inl h)
        · exact .inl (.inr (.inl h))
        · exact .inl (.inr (.inr (.inl h)))
        · rcases hr5 g h with h | h
          · exact .inl (.inr (.inr (.inr h)))
          · right; simp at h; omega
    · have b1 : (e == 0) = false := by simpa using he
      by_cases hkv : k = ⟨#[]⟩ ∧ v = ⟨#[]⟩
      · have hs : stepA (out, 0) ⟨k, v⟩ e = (none, (out, e)) := by simp [stepA, he, hkv]
        rw [hs]
        obtain ⟨rfl, rfl⟩ := hkv
        gi_wp2
        have hms := (Mod.refl (fun g => g = b16) W2).set1 rfl 0 (.int .i64 e)
        have n3 : vo.ownBlock ≠ some b16 := fun e => absurd rfl (cell_of_has D3.out D4.out e (by decide))
        exact ⟨rfl, _, ⟨vo, D1.out.keep hms (fun e => m9 e.symm), D2.out.keep hms (fun e => m10 e.symm), D3.out.set 0 _, own_keep D4.out hms (fun g _ hg e => n3 (e ▸ hg)), rfl⟩, hms.mono fun _ _ h => .inr (.inr (.inl h)), fun g h => .inl h⟩
      · have hs : stepA (out, 0) ⟨k, v⟩ e = (some .ret, (out, 0)) := by simp [stepA, he, hkv]
        rw [hs]
        have hms := (Mod.refl (fun g => g = b8) W2).set1 rfl 0 (.bool false)
        have n1 : vo.ownBlock ≠ some b8 := fun e => absurd rfl (cell_of_has D1.out D4.out e (by decide))
        have fin : ∃ F', i1 b8 b15 b16 (out, 0) F' (W2.setCell ⟨b8, 0, none⟩ (.bool false)) ∧ Mod (fun g => g = b8 ∨ g = b15 ∨ g = b16 ∨ vo.ownBlock = some g) W2 (W2.setCell ⟨b8, 0, none⟩ (.bool false)) ∧ ∀ g, F' g → (g = b8 ∨ g = b15 ∨ g = b16 ∨ vo.ownBlock = some g) ∨ W.heap.size ≤ g :=
          ⟨_, ⟨vo, D1.out.set 0 _, D2.out.keep hms m8, D3.out.keep hms m9, own_keep D4.out hms (fun g _ hg e => n1 (e ▸ hg)), rfl⟩, hms.mono fun _ _ h => .inl h, fun g h => .inl h⟩
        have FIN := Lib.hid fin
        clear fin hms n1
        gi_wp2
        all_goals first | exact ⟨rfl, FIN.out⟩ | (rename_i q1 q2; exact absurd ⟨eq_of_toList_nil q1, eq_of_toList_nil q2⟩ hkv)
  case after =>
    rintro e W7 ⟨v, a', ⟨got, bad⟩, pe, Fg', Fu', rfl, hit, hl, hD, ⟨v5, hI7, rfl⟩, hu7, n1, n2, hap, haq, hm⟩
    obtain ⟨rfl, rfl, rfl, rfl⟩ := HALL.out _ _ _ _ hit
    refine ⟨v, none, rfl, hl, ?_⟩
    obtain ⟨vg, b1, b2, b3, b4, rfl⟩ := hu7
    obtain ⟨Ag, cg, rfl, _, hcg, _, _⟩ := own_cells b4
    obtain ⟨A7, c7, rfl, _, hc7, _, _⟩ := own_cells hI7.own
    dsimp only at b3 b4 hcg
    rw [hz6] at hl hD n1 n2 hap ⊢
    generalize hW8 : W7.putObj (w5.heap.size + 2 + 1) _ = W8
    have hm8 : Mod (fun g => g = w5.heap.size + 2 + 1) W7 W8 := by rw [← hW8]; exact (Mod.refl (fun g => g = w5.heap.size + 2 + 1) W7).putObj (.inl rfl) _
    clear hW8 hl hit
    have hD8 : W8.heap[w5.heap.size + 2]? = some (.deferred (some [])) := (hm8.block _ (heap_lt hD) (by omega)).trans hD
    have hI8 := askIs_keep hI7 hm8 (fun g hg e => by
      rcases hg with hg | hg
      · exact (hap g hg).2.2.2 e
      · have := hN1 g hg; omega)
    have hmC : Mod (fun g => ¬ (g < W6.heap.size ∧ g ≠ w2.heap.size ∧ g ≠ w.heap.size + 1 ∧ g ≠ w5.heap.size ∧ g ≠ w5.heap.size + 1)) W6 W8 := Mod.trans hm hm8 (fun i hi e => by omega)
    have d8' := b1.keep hm8 (by omega)
    have d15' := b2.keep hm8 (by omega)
    have d16' := b3.keep hm8 (by omega)
    have dvg := own_keep b4 hm8 (fun g _ hg e => n1 (by subst e; exact .inr (.inr (.inr hg))))
    have h7 := (H7.out.keep hm26 (fun h => h)).keep hmC (fun h => h ⟨by have := H7.out.lt; have := hm26.size; omega, by have := H7.out.lt; omega, by omega, by have := H7.out.lt; omega, by have := H7.out.lt; omega⟩)
    have hz4 : W4.heap.size = w2.heap.size + 7 := by omega
    have hkk : ∀ (b : Nat) (cs : List Value) (T : TypeId), w2.heap.size + 3 ≤ b → Has W4 b cs T → Has W8 b cs T := fun b cs T hb hh => (hh.keep hm46 (fun h => h)).keep hmC (fun h => h ⟨by have := hh.lt; omega, by omega, by omega, by have := hh.lt; omega, by have := hh.lt; omega⟩)
    have hcw8 := (HCW.out.1.keep hm56 (fun _ _ h => h)).keep hmC (fun ad ha h => h (by have := HCW.out.2 ad ha; omega))
    have hci8 := (HCI.out.2.1.keep hm56 (fun _ _ h => h)).keep hmC (fun ad ha h => h (by have := HLI.out ad ha; omega))
    have hgN : ∀ g, (Value.slice Ag got.length cg).ownBlock = some g → ¬ (askF w.heap.size w2.heap.size (w2.heap.size + 1 + 1) (w2.heap.size + 1) A c objs).N g := fun g hg => (haq g (.inr (.inr (.inr hg)))).1
    have hgb : ∀ g, (Value.slice Ag got.length cg).ownBlock = some g → g ≠ w2.heap.size ∧ g ≠ w.heap.size + 1 ∧ g ≠ w5.heap.size ∧ w5.heap.size + 3 ≤ g := fun g hg => by
      have k1 : g ≠ w2.heap.size := fun e => (hap w2.heap.size (.inl rfl)).1 (.inr (.inr (.inr (e ▸ hg))))
      have k2 : g ≠ w.heap.size + 1 := fun e => absurd e (cell_of_has d8' dvg hg (by decide))
      have k3 : g ≠ w5.heap.size := fun e => absurd e (cell_of_has d15' dvg hg (by decide))
      have k4 : g ≠ w5.heap.size + 1 := fun e => absurd e (cell_of_has d16' dvg hg (by decide))
      have k6 : g ≠ w5.heap.size + 2 := fun e => n2 (by subst e; exact .inr (.inr (.inr hg)))
      have k7 := (haq g (.inr (.inr (.inr hg)))).2
      exact ⟨k1, k2, k3, Decidable.byContradiction fun hlt => k7 ⟨by omega, k1, k2, k3, k4⟩⟩
    have hc8 := hc7.keep hm8 (fun ad ha e => (hap ad.block (.inr (by rw [ha]; rfl))).2.2.2 e)
    have HB := Lib.hid (And.intro (hkk _ _ _ (by omega) HK03.out.1) (And.intro (hkk _ _ _ (by omega) HK03.out.2.1) (And.intro (hkk _ _ _ (by omega) HK03.out.2.2.1) (hkk _ _ _ (by omega) HK03.out.2.2.2))))
    have x10 := hI8.at0.cell (o := 0) rfl
    have x15 := d15'.cell (o := 0) rfl
    have x16 := d16'.cell (o := 0) rfl
    have HST := Lib.hid (sameTexts_calls A7 Ai c7 ci a' W8 hc8 hci8 (by omega))
    have HI8 := Lib.hid hI8
    have HD8 := Lib.hid hD8
    have H7' := Lib.hid h7
    have H8' := Lib.hid d8'
    have H15 := Lib.hid d15'
    have HVG := Lib.hid dvg
    have HC8 := Lib.hid (And.intro hcw8 hci8)
    have HGN := Lib.hid hgN
    have HGB := Lib.hid hgb
    have HN1 := Lib.hid hN1
    have hmw8 : Mod (fun _ => False) w W8 := Mod.trans (Mod.trans HM2.out hm26 (fun _ _ h => h)) hmC (fun i hi h => h ⟨by have := hm26.size; omega, by omega, by omega, by omega, by omega⟩)
    have HMW8 := Lib.hid hmw8
    clear hc8 hI8 hD8 h7 d8' d15' d16' dvg hcw8 hci8 hgN hgb hN1 hmC hmw8 hkk hm8 hD hI7 b1 b2 b3 b4 n1 n2 hap haq hm hc7 hcg hu hI6 d8 d15 d16 hW6 hm56 hm46 hm26 fn
    unfold behindL
    simp only [Option.elim]
    go_upto_region 17 with fail
    go_cut [81] from 63 (fun s81 wx => s81 = .bool false ∧ Hid (Mod (fun _ => False) W8 wx))
    case first =>
      by_cases hE : bad = 0
      · subst hE
        obtain rfl : got = want := (HWG.out rfl).symm
        go_wp2_with fail
        refine HST.out.mono ?_
        rintro e w9 ⟨rfl, hm9⟩
        have HSL := Lib.hid (sameLeaf_calls Ag Aw cg cw got w9 ((own_cells_at HVG.out).keep hm9 (fun _ _ h => h)) (HC8.out.1.keep hm9 (fun _ _ h => h)) (by omega))
        have x15' := (H15.out.keep hm9 (fun h => h)).cell (o := 0) rfl
        have HM9 := Lib.hid hm9
        clear hm9 x10 x15 x16 HST
        go_wp2_with fail
        refine HSL.out.mono ?_
        rintro e w10 ⟨rfl, hm10⟩
        have HMX := Lib.hid (Mod.trans HM9.out hm10 (fun _ _ h => h))
        clear hm10 HM9 HSL x15'
        go_wp2_with fail
        go_meet
        case rel => exact ⟨rfl, HMX⟩
      · have b9 : (bad == 0) = false := by simpa using hE
        go_wp2_with fail
        refine HST.out.mono ?_
        rintro e w9 ⟨rfl, hmx⟩
        have HMX := Lib.hid hmx
        clear x10 x15 x16 HST hmx
        go_wp2_with fail
        go_meet
        case rel => exact ⟨rfl, HMX⟩
    case rest =>
      obtain ⟨w9, hw9⟩ : ∃ w9, wc = w9 := ⟨_, rfl⟩
      rw [hw9] at hcut
      obtain ⟨rfl, HMX⟩ := hcut
      have hmx := HMX.out
      clear x10 x15 x16 HST
      subst hw9
      have z0 := (HI8.out.at0.keep hmx (fun h => h)).cell (o := 0) rfl
      have zf := (HI8.out.at0.keep hmx (fun h => h)).frozen 0
      go_wp2_with fail
      obtain ⟨W11, hW11⟩ : ∃ W11, (wc.setCell ⟨w2.heap.size, 0, none⟩ (.slice none 0 0)).alloc (.cells #[.int .i64 0] 3) = W11 := ⟨_, rfl⟩
      have hmS := (Mod.refl (fun g => g = w2.heap.size) wc).set1 rfl 0 (.slice none 0 0)
      have hm11 : Mod (fun g => g = w2.heap.size) W8 W11 := by rw [← hW11]; exact (Mod.trans (hmx.mono (S' := fun g => g = w2.heap.size) fun _ _ h => h.elim) hmS (fun _ _ h => h)).alloc _
      have hI11 : AskIs w.heap.size w2.heap.size (w2.heap.size + 1 + 1) (w2.heap.size + 1) A c objs (.slice none 0 0) [] W11 := by rw [← hW11]; exact askIs_keep (askIs_nil (askIs_keep HI8.out hmx (fun _ _ h => h))) ((Mod.refl (fun _ => False) _).alloc _) (fun _ _ h => h)
      have d19 : Has W11 wc.heap.size [.int .i64 0] 3 := by rw [← hW11]; exact Has.lit (by simp)
      have hz11 : W11.heap.size = wc.heap.size + 1 := by rw [← hW11]; simp
      have hsx : W8.heap.size ≤ wc.heap.size := hmx.size
      have l15 := H15.out.lt
      rw [hW11]
      clear hW11 hmS z0 zf
      have hu2 : i2 w.heap.size (w.heap.size + 1) w5.heap.size wc.heap.size most got 0 (fun k => k = w.heap.size ∨ k = w.heap.size + 1 ∨ k = w5.heap.size ∨ k = wc.heap.size ∨ (Value.slice Ag got.length cg).ownBlock = some k) W11 :=
        ⟨_, by omega, H7'.out.keep hm11 (by omega), H8'.out.keep hm11 (by omega), H15.out.keep hm11 (by omega), d19, own_keep HVG.out hm11 (fun g _ hg e => (HGB.out g hg).1 e), rfl⟩
      refine range_of (gf := 72) rfl (fun args w => by kernel_rfl) ?_
      intro fn2
      refine (loop_iter (I := i2 w.heap.size (w.heap.size + 1) w5.heap.size wc.heap.size most got) (step := stepN got most) (cnt := fun n => n) (askF_ok w.heap.size w2.heap.size (w2.heap.size + 1 + 1) (w2.heap.size + 1) A c objs) hob root lo ⟨#[]⟩ (C := fun k => k < W11.heap.size ∧ k ≠ w2.heap.size ∧ k ≠ w.heap.size ∧ k ≠ w.heap.size + 1 ∧ k ≠ w5.heap.size ∧ k ≠ wc.heap.size ∧ (Value.slice Ag got.length cg).ownBlock ≠ some k) (a := []) (s := 0)
        rfl i2_keep i2_lt ?cnt ⟨_, hI11, rfl⟩ hu2 ?ap ?aq (fun k hk => hk.1) (by simp) (by simp) _ _ _ _ (HB.out.1.keep hm11 (by omega)) (HB.out.2.1.keep hm11 (by omega)) (HB.out.2.2.1.keep hm11 (by omega)) (HB.out.2.2.2.keep hm11 (by omega)) ?body).mono ?after
      case cnt =>
        intro n p h
        unfold stepN
        split
        · exact Nat.le_succ _
        · split <;> exact Nat.le_refl _
      case ap =>
        rintro g (rfl | h)
        · refine ⟨?_, fun h => h.2.1 rfl⟩
          rintro (h | h | h | h | h)
          · omega
          · omega
          · omega
          · omega
          · exact (HGB.out _ h).1 rfl
        · cases h
      case aq =>
        rintro g (rfl | rfl | rfl | rfl | h)
        · exact ⟨fun hn => by have := HN1.out _ hn; omega, fun h => h.2.2.1 rfl⟩
        · exact ⟨fun hn => by have := HN1.out _ hn; omega, fun h => h.2.2.2.1 rfl⟩
        · exact ⟨fun hn => by have := HN1.out _ hn; omega, fun h => h.2.2.2.2.1 rfl⟩
        · exact ⟨fun hn => by have := HN1.out _ hn; omega, fun h => h.2.2.2.2.2.1 rfl⟩
        · exact ⟨HGN.out g h, fun hc => hc.2.2.2.2.2.2 h⟩
      case body =>
        intro m n Fu W k v e hI hcn hl hlt
        obtain ⟨vg, m0, a7, a8, a15, a19, avg, rfl⟩ := hI
        obtain ⟨Av, cv, rfl, _, _, _, _⟩ := own_cells avg
        rw [hz11] at hl hlt ⊢
        generalize wc.heap.size + 1 + 1 = l at hl hlt ⊢
        generalize wc.heap.size = b19 at m0 a19 hl ⊢
        generalize w5.heap.size = b15 at a15 hl ⊢
        generalize w.heap.size + 1 = b8 at a8 hl ⊢
        generalize w.heap.size = b7 at a7 m0 hl ⊢
        clear hu2 hz11 hsx l15 hI11 d19 hm11 hmx fn2
        gi_wp2_with fail
        refine ⟨(Mod.refl _ W).alloc _, fun o => ?_⟩
        obtain ⟨W2, hW2⟩ : ∃ W2, (W.alloc (.cells #[.string k, .string v] 48)).putObj l o = W2 := ⟨_, rfl⟩
        have hm2 : Mod (fun g => g = l) W W2 := by rw [← hW2]; exact ((Mod.refl (fun g => g = l) W).alloc _).putObj (.inl rfl) _
        have hz2 : W2.heap.size = W.heap.size + 1 := by rw [← hW2]; simp
        have hp : Has W2 W.heap.size [.string k, .string v] 48 := by rw [← hW2]; exact (Has.new W _ _).keep ((Mod.refl (fun g => g = l) _).putObj (.inl rfl) _) (by omega)
        have d7 := a7.keep hm2 (fun e => hl (by subst e; exact .inl rfl))
        have d8 := a8.keep hm2 (fun e => hl (by subst e; exact .inr (.inl rfl)))
        have d15 := a15.keep hm2 (fun e => hl (by subst e; exact .inr (.inr (.inl rfl))))
        have d19 := a19.keep hm2 (fun e => hl (by subst e; exact .inr (.inr (.inr (.inl rfl)))))
        have dvg := own_keep avg hm2 (fun g _ hg e => hl (by subst e; exact .inr (.inr (.inr (.inr hg)))))
        rw [hW2]
        have m8 : b19 ≠ b8 := has_ne2 d8 d19 (by decide)
        have m9 : b15 ≠ b8 := has_ne2 d8 d15 (by decide)
        have m10 : b19 ≠ b15 := has_ne2 d15 d19 (by decide)
        have m11 : b7 ≠ b8 := has_ne2 d8 d7 (by decide)
        have m12 : b7 ≠ b15 := has_ne2 d15 d7 (by decide)
        have n8 : ∀ g, (Value.slice Av got.length cv).ownBlock = some g → g ≠ b8 := fun g hg e => absurd e (cell_of_has d8 dvg hg (by decide))
        have n19 : ∀ g, (Value.slice Av got.length cv).ownBlock = some g → g ≠ b19 := fun g hg e => absurd e (cell_of_has d19 dvg hg (by decide))
        have hcg2 := own_cells_at dvg
        have D7 := Lib.hid d7
        have D8 := Lib.hid d8
        have D15 := Lib.hid d15
        have D19 := Lib.hid d19
        have DVG := Lib.hid dvg
        have HN8 := Lib.hid n8
        have HN19 := Lib.hid n19
        have x19 := d19.cell (o := 0) rfl
        have x15 := d15.cell (o := 0) rfl
        have x7 := d7.cell (o := 0) rfl
        have x8 := d8.cell (o := 0) rfl
        have p0 := hp.cell (o := 0) rfl
        have p1 := hp.cell (o := 1) rfl
        have y19 := d19.frozen 0
        have y8 := d8.frozen 0
        clear a7 a8 a15 a19 avg hm2 hp hW2 d7 d8 d15 d19 dvg n8 n19
        have v19 := fun (w' : World) (mm : Mod (fun _ => False) W2.drew w') => (mm.cell (p := ⟨b19, 0, none⟩) (show b19 < W2.drew.heap.size from D19.out.lt) (fun h => h)).trans x19
        have v15 := fun (w' : World) (mm : Mod (fun _ => False) W2.drew w') => (mm.cell (p := ⟨b15, 0, none⟩) (show b15 < W2.drew.heap.size from D15.out.lt) (fun h => h)).trans x15
        have v0 := fun (w' : World) (mm : Mod (fun _ => False) W2.drew w') => (mm.cell (p := ⟨W.heap.size, 0, none⟩) (show W.heap.size < W2.heap.size by omega) (fun h => h)).trans p0
        have v1 := fun (w' : World) (mm : Mod (fun _ => False) W2.drew w') => (mm.cell (p := ⟨W.heap.size, 1, none⟩) (show W.heap.size < W2.heap.size by omega) (fun h => h)).trans p1
        clear HB HI8 HD8 H7' H8' H15 HVG HC8 HGN HGB HN1 HMW8 HMX hz4 HEAR HWG HALL HCI hlen l8 l45 lw2 hz6 HLI HCW HM5 HM34 HK03 HF3 HI4 hFg k5 hz3 H8 H7 HM2 HO hob
        rename_i z6 z7 z8 z9 z10 z11 z12 z13 z14 z15 z16 z17 z18 z19 z20 z21 z22 z23 z24 z25 z26 z27 z28 z29 z30
        clear z30 z29 z28 z27 z26 z24 z23 z22 z21 z20 z19 z17 z16 z15 z14 z13 z12 z11 z10 z9 z7 z6 z18 z25 z8
        by_cases hn : n < got.length
        · rcases hcg2 with h | ⟨ba, o2, rfl, hcell⟩
          · have := flat_len kc_len got; rw [h] at this; simp at this; omega
          have g0 := hcell _ _ (flat_get kc_len got n 0 hn (by omega))
          have g1 := hcell _ _ (flat_get kc_len got n 1 hn (by omega))
          have i1 : (n : Int) < (got.length : Int) := by omega
          have w0 := fun (w' : World) (mm : Mod (fun _ => False) W2.drew w') => (mm.cell (p := ⟨ba, o2 + n * 2, none⟩) (show ba < W2.drew.heap.size from World.block_lt_of_cell? W2 _ g0) (fun h => h)).trans g0
          have w1 := fun (w' : World) (mm : Mod (fun _ => False) W2.drew w') => (mm.cell (p := ⟨ba, o2 + n * 2 + 1, none⟩) (show ba < W2.drew.heap.size from World.block_lt_of_cell? W2 _ g0) (fun h => h)).trans g1
          clear hcell
          have hgd : got.getD n pair0 = got[n] := by simp [List.getD, hn]
          by_cases hk : k = got[n].key
          · subst hk
            by_cases hv : v = got[n].val
            · subst hv
              have hs : stepN got most n ⟨got[n].key, got[n].val⟩ e = if most ≤ (n : Int) + 1 then (some (.exit 2), n + 1) else (none, n + 1) := by unfold stepN; rw [if_neg (by rw [hgd]; simp)]
              clear hgd
              have wr : IntKind.i64.wrap ((n : Int) + 1) = (n : Int) + 1 := by rw [IntKind.wrap_i64]; omega
              obtain ⟨y, hy⟩ : ∃ y, stepN got most n ⟨got[n].key, got[n].val⟩ e = y := ⟨_, rfl⟩
              rw [hy] at hs ⊢
              clear hy
              gi_wp2_with fail
              refine region_mT_in (fun _ => False) (by kernel_rfl) (by kernel_rfl) (by rintro ⟨_, _, hh⟩; cases hh.1) ?_
              simp only [List.length_cons, List.length_nil, List.replicate]
              refine take1T 0 ?_
              refine take1T 1 ?_
              refine take1T 2 ?_
              refine take1T 3 ?_
              refine take1T 4 ?_
              refine take1T 5 ?_
              refine take1T 6 ?_
              refine take1T 7 ?_
              refine take1T 8 ?_
              refine take1T 9 ?_
              refine take1T 10 ?_
              refine take1T 11 ?_
              refine wpAnyT_done (by kernel_rfl) ?_
              have hms := ((Mod.refl (fun g => g = b19) W2).drew).set1 rfl 0 (.int .i64 ((n : Int) + 1))
              have e19 := (D19.out.drew).set 0 (.int .i64 ((n : Int) + 1))
              have z19 := e19.cell (o := 0) rfl
              have z7 := (D7.out.keep hms (fun e => m0 e.symm)).cell (o := 0) rfl
              have fin : ∃ F', i2 b7 b8 b15 b19 most got (n + 1) F' (W2.drew.setCell ⟨b19, 0, none⟩ (.int .i64 ((n : Int) + 1))) ∧ Mod (fun g => g = b7 ∨ g = b8 ∨ g = b15 ∨ g = b19 ∨ (Value.slice (some ⟨ba, o2, none⟩) got.length cv).ownBlock = some g) W2 (W2.drew.setCell ⟨b19, 0, none⟩ (.int .i64 ((n : Int) + 1))) ∧ ∀ g, F' g → (g = b7 ∨ g = b8 ∨ g = b15 ∨ g = b19 ∨ (Value.slice (some ⟨ba, o2, none⟩) got.length cv).ownBlock = some g) ∨ W.heap.size ≤ g :=
                ⟨_, ⟨_, m0, D7.out.keep hms (fun e => m0 e.symm), D8.out.keep hms (fun e => m8 e.symm), D15.out.keep hms (fun e => m10 e.symm), e19, own_keep DVG.out hms (fun g _ hg e => HN19.out g hg e), rfl⟩, hms.mono fun _ _ h => .inr (.inr (.inr (.inl h))), fun g h => .inl h⟩
              have FIN := Lib.hid fin
              clear fin hms e19
              by_cases hm : most ≤ (n : Int) + 1
              · rw [if_pos hm] at hs
                have HS := Lib.hid hs
                clear hs
                gi_wp2_with fail
                have hs := HS.out
                subst hs
                exact ⟨rfl, FIN.out⟩
              · rw [if_neg hm] at hs
                have HS := Lib.hid hs
                clear hs
                gi_wp2_with fail
                have hs := HS.out
                subst hs
                exact ⟨rfl, FIN.out⟩
            · have hvl : ¬ v.toList = (got[n].val).toList := fun h => hv ((Lib.bytes_beq_iff _ _).1 (by rw [h]; simp))
              have hs : stepN got most n ⟨got[n].key, v⟩ e = (some .ret, n) := by unfold stepN; rw [if_pos ⟨hn, by rw [hgd]; exact fun h => hv h.2.symm⟩]
              clear hgd
              rw [hs]
              gi_wp2_with fail
              refine region_mT_in (fun _ => False) (by kernel_rfl) (by kernel_rfl) (by rintro ⟨_, _, hh⟩; cases hh.1) ?_
              simp only [List.length_cons, List.length_nil, List.replicate]
              refine take1T 0 ?_
              refine take1T 1 ?_
              refine take1T 2 ?_
              refine take1T 3 ?_
              refine take1T 4 ?_
              refine take1T 5 ?_
              refine take1T 6 ?_
              refine take1T 7 ?_
              refine take1T 8 ?_
              refine take1T 9 ?_
              refine take1T 10 ?_
              refine take1T 11 ?_
              refine wpAnyT_done (by kernel_rfl) ?_
              gi_wp2_with fail
              have hms := ((Mod.refl (fun g => g = b8) W2).drew).set1 rfl 0 (.bool false)
              exact ⟨rfl, _, ⟨_, m0, D7.out.keep hms m11, D8.out.drew.set 0 _, D15.out.keep hms m9, D19.out.keep hms m8, own_keep DVG.out hms (fun g _ hg e => HN8.out g hg e), rfl⟩, hms.mono fun _ _ h => .inr (.inl h), fun g h => .inl h⟩
          · have hkl : ¬ k.toList = (got[n].key).toList := fun h => hk ((Lib.bytes_beq_iff _ _).1 (by rw [h]; simp))
            have hs : stepN got most n ⟨k, v⟩ e = (some .ret, n) := by unfold stepN; rw [if_pos ⟨hn, by rw [hgd]; exact fun h => hk h.1.symm⟩]
            clear hgd
            rw [hs]
            gi_wp2_with fail
            refine region_mT_in (fun _ => False) (by kernel_rfl) (by kernel_rfl) (by rintro ⟨_, _, hh⟩; cases hh.1) ?_
            simp only [List.length_cons, List.length_nil, List.replicate]
            refine take1T 0 ?_
            refine take1T 1 ?_
            refine take1T 2 ?_
            refine take1T 3 ?_
            refine take1T 4 ?_
            refine take1T 5 ?_
            refine take1T 6 ?_
            refine take1T 7 ?_
            refine take1T 8 ?_
            refine take1T 9 ?_
            refine take1T 10 ?_
            refine take1T 11 ?_
            refine wpAnyT_done (by kernel_rfl) ?_
            gi_wp2_with fail
            have hms := ((Mod.refl (fun g => g = b8) W2).drew).set1 rfl 0 (.bool false)
            exact ⟨rfl, _, ⟨_, m0, D7.out.keep hms m11, D8.out.drew.set 0 _, D15.out.keep hms m9, D19.out.keep hms m8, own_keep DVG.out hms (fun g _ hg e => HN8.out g hg e), rfl⟩, hms.mono fun _ _ h => .inr (.inl h), fun g h => .inl h⟩
        · have i1 : ¬ (n : Int) < (got.length : Int) := by omega
          have hs : stepN got most n ⟨k, v⟩ e = if most ≤ (n : Int) + 1 then (some (.exit 2), n + 1) else (none, n + 1) := by unfold stepN; rw [if_neg (fun h => hn h.1)]
          have wr : IntKind.i64.wrap ((n : Int) + 1) = (n : Int) + 1 := by rw [IntKind.wrap_i64]; omega
          obtain ⟨y, hy⟩ : ∃ y, stepN got most n ⟨k, v⟩ e = y := ⟨_, rfl⟩
          rw [hy] at hs ⊢
          clear hy
          gi_wp2_with fail
          refine region_mT_in (fun _ => False) (by kernel_rfl) (by kernel_rfl) (by rintro ⟨_, _, hh⟩; cases hh.1) ?_
          simp only [List.length_cons, List.length_nil, List.replicate]
          refine take1T 0 ?_
          refine take1T 1 ?_
          refine take1T 2 ?_
          refine take1T 3 ?_
          refine take1T 4 ?_
          refine take1T 5 ?_
          refine take1T 6 ?_
          refine take1T 7 ?_
          refine take1T 8 ?_
          refine take1T 9 ?_
          refine take1T 10 ?_
          refine take1T 11 ?_
          refine wpAnyT_done (by kernel_rfl) ?_
          have hms := ((Mod.refl (fun g => g = b19) W2).drew).set1 rfl 0 (.int .i64 ((n : Int) + 1))
          have e19 := (D19.out.drew).set 0 (.int .i64 ((n : Int) + 1))
          have z19 := e19.cell (o := 0) rfl
          have z7 := (D7.out.keep hms (fun e => m0 e.symm)).cell (o := 0) rfl
          have fin : ∃ F', i2 b7 b8 b15 b19 most got (n + 1) F' (W2.drew.setCell ⟨b19, 0, none⟩ (.int .i64 ((n : Int) + 1))) ∧ Mod (fun g => g = b7 ∨ g = b8 ∨ g = b15 ∨ g = b19 ∨ (Value.slice Av got.length cv).ownBlock = some g) W2 (W2.drew.setCell ⟨b19, 0, none⟩ (.int .i64 ((n : Int) + 1))) ∧ ∀ g, F' g → (g = b7 ∨ g = b8 ∨ g = b15 ∨ g = b19 ∨ (Value.slice Av got.length cv).ownBlock = some g) ∨ W.heap.size ≤ g :=
            ⟨_, ⟨_, m0, D7.out.keep hms (fun e => m0 e.symm), D8.out.keep hms (fun e => m8 e.symm), D15.out.keep hms (fun e => m10 e.symm), e19, own_keep DVG.out hms (fun g _ hg e => HN19.out g hg e), rfl⟩, hms.mono fun _ _ h => .inr (.inr (.inr (.inl h))), fun g h => .inl h⟩
          have FIN := Lib.hid fin
          clear fin hms e19
          by_cases hm : most ≤ (n : Int) + 1
          · rw [if_pos hm] at hs
            have HS := Lib.hid hs
            clear hs
            gi_wp2_with fail
            have hs := HS.out
            subst hs
            exact ⟨rfl, FIN.out⟩
          · rw [if_neg hm] at hs
            have HS := Lib.hid hs
            clear hs
            gi_wp2_with fail
            have hs := HS.out
            subst hs
            exact ⟨rfl, FIN.out⟩
      case after =>
        rintro e W12 ⟨v', a2, n3, pe, Fg', Fu', rfl, hit, hl, hD, ⟨v9, hI12, rfl⟩, hu12, n1, n2, hap, haq, hm⟩
        obtain ⟨hpre, hpe⟩ := HEAR.out _ _ _ hit
        refine ⟨v', pe, rfl, hl, ?_⟩
        obtain ⟨vg2, m0, c7', c8', c15', c19', cvg, rfl⟩ := hu12
        obtain ⟨A9, c9, rfl, _, hc9, _, _⟩ := own_cells hI12.own
        rw [hz11] at hl hD n1 n2 hap ⊢
        generalize hW13 : W12.putObj (wc.heap.size + 1 + 1) _ = W13
        have hm13 : Mod (fun g => g = wc.heap.size + 1 + 1) W12 W13 := by rw [← hW13]; exact (Mod.refl (fun g => g = wc.heap.size + 1 + 1) W12).putObj (.inl rfl) _
        clear hW13 hl hit
        have hD2 : W13.heap[wc.heap.size + 1]? = some (.deferred (some [])) := (hm13.block _ (heap_lt hD) (by omega)).trans hD
        have hgx := HGB.out
        have lD := heap_lt HD8.out
        have hmC : Mod (fun g => ¬ (g < W11.heap.size ∧ g ≠ w2.heap.size ∧ g ≠ w.heap.size ∧ g ≠ w.heap.size + 1 ∧ g ≠ w5.heap.size ∧ g ≠ wc.heap.size ∧ (Value.slice Ag got.length cg).ownBlock ≠ some g)) W11 W13 := Mod.trans hm hm13 (fun i hi e => by omega)
        have hm813 : Mod (fun g => ¬ (g < W8.heap.size ∧ g ≠ w2.heap.size ∧ g ≠ w.heap.size ∧ g ≠ w.heap.size + 1 ∧ g ≠ w5.heap.size ∧ (Value.slice Ag got.length cg).ownBlock ≠ some g)) W8 W13 :=
          Mod.trans (hm11.mono fun g hg e h => h.2.1 e) hmC (fun i hi h hc => h ⟨by omega, hc.2.1, hc.2.2.1, hc.2.2.2.1, hc.2.2.2.2.1, by omega, hc.2.2.2.2.2⟩)
        have hD1 : W13.heap[w5.heap.size + 2]? = some (.deferred (some [])) := (hm813.block _ lD (fun h => h ⟨lD, by omega, by omega, by omega, by omega, fun e => by have := (hgx _ e).2.2.2; omega⟩)).trans HD8.out
        have hci13 := HC8.out.2.keep hm813 (fun ad ha h => h (by
          have h1 := HLI.out ad ha
          exact ⟨by have := H15.out.lt; omega, by omega, by omega, by omega, by omega, fun e => by have := (hgx _ e).2.2.2; omega⟩))
        have hc13 := hc9.keep hm13 (fun ad ha e => (hap ad.block (.inr (by rw [ha]; rfl))).2.2.2 e)
        have d10 := hI12.at0.keep hm13 (fun e => (hap _ (.inl rfl)).2.2.2 e)
        have d8 := c8'.keep hm13 (by omega)
        have hbw : Mod (fun _ => False) w W13 := Mod.trans HMW8.out hm813 (fun i hi h => h ⟨by have := HMW8.out.size; omega, by omega, by omega, by omega, by omega, fun e => by have := (hgx _ e).2.2.2; omega⟩)
        have hle := hpre.length_le
        have htk : a'.take a2.length = a2 := (List.prefix_iff_eq_take.1 hpre).symm
        obtain ⟨hsl, hct⟩ := ids_to a2.length hci13 HCI.out.2.2 hle HCI.out.1
        rw [htk] at hct
        have HS2 := Lib.hid (fun (w' : World) (mm : Mod (fun _ => False) W13 w') => sameTexts_calls A9 Ai c9 ci a2 w' (hc13.keep mm (fun _ _ h => h)) (hct.keep mm (fun _ _ h => h)) (by omega))
        have x10 := d10.cell (o := 0) rfl
        have v10 := fun (w' : World) (mm : Mod (fun g => g = w.heap.size + 1) W13.drew w') => (mm.cell (p := ⟨w2.heap.size, 0, none⟩) (show w2.heap.size < W13.drew.heap.size from d10.lt) (show w2.heap.size ≠ w.heap.size + 1 by omega)).trans x10
        have i1 : (a2.length : Int) ≤ (a'.length : Int) := by omega
        have D8 := Lib.hid d8
        have HD1 := Lib.hid hD1
        have HD2 := Lib.hid hD2
        have HBW := Lib.hid hbw
        clear hm13 hD2 hgx lD hmC hm813 hD1 hci13 hc13 d10 d8 hbw hle htk hct hm hap haq n1 n2 hD hI12 c7' c8' c15' c19' cvg hc9 hpre hu2 hI11 d19 hm11 hmx
        refine behind_exit hpe ?_
        clear hpe
        go_wp2_with fail
        refine region_noPan ?_
        refine region_mT (fun g => g = w.heap.size + 1) (by kernel_rfl) ?_
        simp only [List.length_cons, List.length_nil, List.replicate]
        refine take1T 0 ?_
        refine take1T 1 ?_
        refine take1T 2 ?_
        refine take1T 3 ?_
        refine take1T 4 ?_
        refine take1T 5 ?_
        refine take1T 6 ?_
        refine take1T 7 ?_
        refine take1T 8 ?_
        refine take1T 9 ?_
        refine take1T 10 ?_
        refine take1T 11 ?_
        refine take1T 12 ?_
        refine take1T 13 ?_
        refine step1T 14 ?_
        go_simp
        refine (HS2.out _ ((Mod.refl (fun _ => False) W13).drew)).mono ?_
        rintro e w14 ⟨rfl, hm14⟩
        refine ⟨.inl (hm14.mono fun _ _ h => h.elim), ?_⟩
        have HM14 := Lib.hid hm14
        have x8 := ((D8.out.drew).keep hm14 (fun h => h)).cell (o := 0) rfl
        have y8 := ((D8.out.drew).keep hm14 (fun h => h)).frozen 0
        refine take1T 15 ?_
        refine step1T 16 ?_
        go_simp
        refine ⟨.inl ((Mod.refl (fun g => g = w.heap.size + 1) w14).set1 rfl 0 _), ?_⟩
        refine wpAnyT_done (by kernel_rfl) ?_
        refine NoPan.normal ?_
        go_wp2_with fail
        have lD := heap_lt HD8.out
        have hms := (Mod.refl (fun g => g = w.heap.size + 1) w14).set1 rfl 0 (.bool true)
        have hE2 := (hms.block _ (Nat.lt_of_lt_of_le (heap_lt HD2.out) HM14.out.size) (by omega)).trans ((HM14.out.block _ (heap_lt HD2.out) (fun h => h)).trans HD2.out)
        have hE1 := (hms.block _ (Nat.lt_of_lt_of_le (heap_lt HD1.out) HM14.out.size) (by omega)).trans ((HM14.out.block _ (heap_lt HD1.out) (fun h => h)).trans HD1.out)
        have hq2 := (Mod.refl (fun g => g = wc.heap.size + 1) (w14.setCell ⟨w.heap.size + 1, 0, none⟩ (.bool true))).putObj (.inl rfl) (.deferred none)
        have hE3 := (hq2.block _ (heap_lt hE1) (by omega)).trans hE1
        have hq1 := (Mod.refl (fun g => g = w5.heap.size + 2) ((w14.setCell ⟨w.heap.size + 1, 0, none⟩ (.bool true)).putObj (wc.heap.size + 1) (.deferred none))).putObj (.inl rfl) (.deferred none)
        have q8 := ((((D8.out.drew).keep HM14.out (fun h => h)).set 0 (.bool true)).keep hq2 (by omega)).keep hq1 (by omega)
        have hbw := Mod.trans (Mod.trans (Mod.trans (Mod.trans ((HBW.out.drew).mono (S' := fun g => w.heap.size ≤ g) fun _ _ h => h.elim) HM14.out (fun _ _ h => h.elim)) hms (fun i hi e => by omega)) hq2 (fun i hi e => by omega)) hq1 (fun i hi e => by omega)
        refine ⟨by simp, .inl ⟨_, _, rfl, run_takeDeferred hE2, ?_⟩⟩
        refine ⟨by simp, .inl ⟨_, _, rfl, run_takeDeferred hE3, ?_⟩⟩
        exact ⟨.bool true, by simp [results, Tryd.results5, go_sem, q8.cell (o := 0) rfl], rfl, hbw.below (fun i hi h => by omega)⟩
end Prolly
end Go.Proofs.YtpoljpjcmigobaaDoor
