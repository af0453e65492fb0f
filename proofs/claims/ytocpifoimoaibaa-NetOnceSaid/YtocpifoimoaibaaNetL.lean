/- What the net's statements have in common: who answers with a sign behind the frame; the document's examples; a nil net. -/
import Derived.Test.YtocpifoimoaibaaNetA
import Derived.Test.YtocpifoimoaibaaNetS
namespace Go.Proofs.Ytocpifoimoaibaa
set_option linter.unusedVariables false
set_option linter.unusedSimpArgs false
open Go.RowKit K
namespace Net

def bang (s : ByteArray) : ByteArray := s ++ ⟨#[33]⟩
theorem bang_size (s : ByteArray) : (bang s).size = s.size + 1 := by simp [bang]; rfl

set_option maxRecDepth 100000 in
theorem echo_calls (s : ByteArray) (w : World) (hs : s.size ≤ 140737488351232) : Calls Try.prog 17 #[.string s] w fun e w' => e = .returned (.string (bang s)) ∧ w' = w := by
  go_enter Try.func17, Try.ntmps17
  go_wp2_with fail
  go_ret
  exact ⟨rfl, rfl⟩

/-- who answers a frame with a sign behind it -/
def echoV : Srv Unit where
  I := fun _ F _ => ∀ k, ¬ F k
  step := fun st s => (bang s, st)
  cost := fun _ => 0
  Pt := fun s => s.size ≤ 140737488351232 ∧ 0 < s.size
  Pb := fun s => s.size ≤ 140737488351233 ∧ 0 < s.size
  ks := 17
  caps := #[]
  own := fun _ => True
theorem echo_ok : SrvOk echoV where
  keep := fun _ _ _ _ _ h _ _ => h
  lt := fun _ _ _ k h hk => (h k hk).elim
  cost := fun _ _ => Nat.zero_le _
  pt := fun s h => ⟨by unfold maxLen; have := h.1; omega, h.2⟩
  pb := fun s h => ⟨by unfold maxLen; have := h.1; omega, h.2⟩
  ptt := fun s a b h => by show _ ∧ _; rw [trnB_size]; exact h
  pbt := fun s a b h => by show _ ∧ _; rw [trnB_size]; exact h
  ans := fun st F w s _ h _ => by show _ ∧ _; rw [show (echoV.step st s).1 = bang s from rfl, bang_size]; exact ⟨by have := h.1; omega, by omega⟩
  enter := fun w s => by kernel_rfl
  call := fun st F w s hI h _ => (echo_calls s w h.1).mono fun e w' ⟨he, hw⟩ => ⟨F, he, hI, hw ▸ Mod.refl _ _, fun k hk => .inl hk⟩
theorem echo_ans : ∀ (st : Unit) c, echoV.Pt c → 0 < (echoV.step st c).1.size → echoV.Pb (echoV.step st c).1 := fun st c h _ => by
  show _ ∧ _; rw [show (echoV.step st c).1 = bang c from rfl, bang_size]; exact ⟨by have := h.1; omega, by omega⟩

set_option maxRecDepth 100000 in
theorem sent_nil (w : World) : Calls Try.prog 15 #[.pointer none] w fun e w' => e = .returned (.int .i64 0) ∧ w' = w := by
  go_enter Try.func15, Try.ntmps15
  go_wp2_with fail
  go_ret
  exact ⟨rfl, rfl⟩
set_option maxRecDepth 100000 in
theorem left_nil (w : World) : Calls Try.prog 16 #[.pointer none] w fun e w' => e = .returned (.int .i64 0) ∧ w' = w := by
  go_enter Try.func16, Try.ntmps16
  go_wp2_with fail
  go_ret
  exact ⟨rfl, rfl⟩
set_option maxRecDepth 100000 in
theorem none_calls (w : World) : Calls Try.prog 7 #[] w fun e w' => e = .returned (.bool true) ∧ Mod (fun _ => False) w w' := by
  go_enter Try.func7, Try.ntmps7
  go_wp2_with fail
  refine (new_nil none 0 0 w).mono ?_
  rintro e w1 ⟨rfl, hm1⟩
  have HM := Lib.hid hm1
  clear hm1
  go_wp2_with fail
  refine (ask_nil _ _).mono ?_
  rintro e w2 ⟨rfl, hw⟩; subst hw
  go_wp2_with fail
  refine (sent_nil _).mono ?_
  rintro e w3 ⟨rfl, hw⟩; subst hw
  go_wp2_with fail
  refine (left_nil _).mono ?_
  rintro e w4 ⟨rfl, hw⟩; subst hw
  go_wp2_with fail
  go_ret
  exact ⟨rfl, HM.out⟩

/-- the examples' fates and frames -/
def sl0 : List Fate := [⟨3, 0, 0⟩, ⟨2, 0, 3⟩, ⟨4, 0, 0⟩]
def sa : ByteArray := ⟨#[97]⟩
def sab : ByteArray := ⟨#[97, 98]⟩
def sc : ByteArray := ⟨#[99]⟩
def sbb : ByteArray := ⟨#[98, 98, 33]⟩
def sab1 : ByteArray := ⟨#[97, 33]⟩
def sc1 : ByteArray := ⟨#[99, 33]⟩
theorem sh1 : (goes (hd sl0) sa []).1 = [] := rfl
theorem sh2 : (goes (hd sl0) sa []).2 = [sa] := rfl
theorem sh0 : echoV.asks [] sl0.tail [] () = ⟨[], sl0.tail, [], ()⟩ := rfl
theorem sh3 : (goes (hd sl0.tail) sab [sa]).2 = [] := rfl
theorem sh4 : echoV.asks (goes (hd sl0.tail) sab [sa]).1 sl0.tail.tail [] () = ⟨[sbb, sbb, sab1], [], [], ()⟩ := by rfl
theorem sh5 : (goes (hd []) sc []).2 = [] := rfl
theorem sh6 : echoV.asks (goes (hd []) sc []).1 ([] : List Fate).tail [] () = ⟨[sc1], [], [], ()⟩ := by rfl

theorem small_mk {l : List Fate} {wt wb : List ByteArray} (h1 : FWf l) (h2 : ∀ x ∈ wt, echoV.Pt x) (h3 : ∀ x ∈ wb, echoV.Pb x) (h4 : wt.length ≤ 100000) (h5 : wb.length ≤ 100000) : Small echoV l wt wb () := ⟨h1, h2, h3, h4, h5, Nat.zero_le _⟩
def F0 : Nat → Prop := fun _ => False
theorem echo_both {w : World} {p : NP} {sent : Nat} {l : List Fate} {wt wb : List ByteArray} (h : NetAt w echoV.f p sent l wt wb) : Both echoV w p F0 sent l wt wb () := ⟨h, fun _ h => h, fun _ _ h => h⟩
theorem fwf_sl0 : FWf sl0 := by
  intro f hf
  simp only [sl0, List.mem_cons, List.not_mem_nil, or_false] at hf
  rcases hf with rfl | rfl | rfl <;> simp
theorem fwf_nil : FWf [] := fun f h => by cases h

/-- a list that an Ask gave, kept -/
theorem frames_went {O : Nat → Prop} {w w' : World} {p p' : NP} {F F' : Nat → Prop} {A : Option Addr} {c : Nat} {l : List ByteArray} (h : Frames w A c l) (g : Went O p p' F F' w w') (ha : ∀ a, A = some a → ¬ p.fp a.block ∧ ¬ F a.block) : Frames w' A c l :=
  h.keep g.mod (fun a h1 h2 => h2.elim (ha a h1).1 (fun h3 => (ha a h1).2 h3.1))

set_option maxRecDepth 100000 in
set_option maxHeartbeats 2000000 in
theorem shown_calls (w : World) : Calls Try.prog 6 #[] w fun e w' => e = .returned (.bool true) ∧ Mod (fun _ => False) w w' := by
  go_enter Try.func6, Try.ntmps6
  go_wp2_with fail
  refine (new_calls 17 #[] (some ⟨w.heap.size, 0, none⟩) 3 sl0 _ (cells_lit rfl) (by decide) (by unfold maxLen; omega) rfl (by decide)).mono ?_
  rintro e w1 ⟨p, rfl, hN1, hfp1, hm1⟩
  have HM1 := Lib.hid (Mod.trans (Mod.alloc (Mod.refl (fun _ => False) w) _) hm1 (fun _ _ h => h))
  have hz1 := hm1.size
  simp only [size_alloc] at hz1
  have hA := ask_calls echo_ok echo_ans p F0 0 sl0 [] [] () sa w1 (echo_both hN1) (small_mk fwf_sl0 (fun _ h => by cases h) (fun _ h => by cases h) (by decide) (by decide)) ⟨by decide, by decide⟩ (by decide)
  rw [sh1, sh2, sh0] at hA
  have hfp1' : ∀ k, p.fp k → w.heap.size ≤ k := fun k hk => by have := hfp1 k hk; simp only [size_alloc] at this; omega
  have HA := Lib.hid hA
  have HF1 := Lib.hid hfp1'
  clear hm1 hfp1 hN1 hA hfp1'
  go_wp2_with fail
  refine HA.out.mono ?_
  rintro e w2 ⟨r1, p2, F2, rfl, ho1, hB2, hW2, hd1⟩
  have hF2 : ∀ k, ¬ F2 k := hB2.srv
  obtain ⟨A1, c1, rfl, _, _⟩ := own_frames ho1
  have hA := ask_calls echo_ok echo_ans p2 F2 1 sl0.tail [sa] [] () sab w2 hB2 (small_mk fwf_sl0.tail (fun x h => by obtain rfl := List.mem_singleton.1 h; exact ⟨by decide, by decide⟩) (fun _ h => by cases h) (by decide) (by decide)) ⟨by decide, by decide⟩ (by decide)
  rw [sh3, sh4] at hA
  have HA2 := Lib.hid hA
  have HB2 := Lib.hid hB2
  have HW2 := Lib.hid hW2
  have hbn2 : p.bn = p2.bn := hW2.bn.symm
  clear hA hB2 hW2 ho1 hd1 HA
  rw [hbn2]
  go_wp2_with fail
  refine HA2.out.mono ?_
  rintro e w3 ⟨r2, p3, F3, rfl, ho2, hB3, hW3, hd2⟩
  obtain ⟨A2, c2, rfl, hfr2, hfb2⟩ := own_frames ho2
  have hd2' : ∀ a, A2 = some a → ¬ p3.fp a.block ∧ ¬ F3 a.block := fun a ha => hd2 a.block (by rw [ha]; rfl)
  have hA := ask_calls echo_ok echo_ans p3 F3 2 [] [] [] () sc w3 hB3 (small_mk fwf_nil (fun x h => by cases h) (fun _ h => by cases h) (by decide) (by decide)) ⟨by decide, by decide⟩ (by decide)
  rw [sh5, sh6] at hA
  have HA3 := Lib.hid hA
  have HW3 := Lib.hid hW3
  have HFR2 := Lib.hid hfr2
  have HD2 := Lib.hid hd2'
  have hbn3 : p2.bn = p3.bn := hW3.bn.symm
  clear hA hB3 hW3 ho2 hd2 hfr2 hd2' HA2 hbn2 hfb2
  rw [hbn3]
  go_wp2_with fail
  refine HA3.out.mono ?_
  rintro e w4 ⟨r3, p4, F4, rfl, ho3, hB4, hW4, hd3⟩
  obtain ⟨A3, c3, rfl, hfr3, hfb3⟩ := own_frames ho3
  have hbn4 : p3.bn = p4.bn := hW4.bn.symm
  have HFR24 := Lib.hid (frames_went HFR2.out hW4 HD2.out)
  have HFR3 := Lib.hid hfr3
  have HB4 := Lib.hid hB4
  have HW4 := Lib.hid hW4
  clear ho3 hB4 hW4 hd3 hfr3 hfb3 HA3 hbn3 HFR2 HD2
  rw [hbn4]
  go_wp2_with fail
  refine (new_bad 17 #[] (some ⟨w4.heap.size, 0, none⟩) 1 [⟨5, 0, 0⟩] _ (cells_lit rfl) (by decide) (by unfold maxLen; omega) rfl).mono ?_
  rintro e w5 ⟨rfl, hm5⟩
  have hm45 : Mod (fun _ => False) w4 w5 := Mod.trans (Mod.alloc (Mod.refl _ _) _) hm5 (fun _ _ h => h)
  have HM5 := Lib.hid hm45
  have HFR25 := Lib.hid (HFR24.out.keep hm45 (fun _ _ h => h))
  have HFR35 := Lib.hid (HFR3.out.keep hm45 (fun _ _ h => h))
  have HB5 := Lib.hid (HB4.out.keep echo_ok hm45 (fun _ _ h => h))
  clear hm5 hm45 HFR24 HFR3 hbn4
  go_wp2_with fail
  refine (same_calls A2 _ c2 3 [sbb, sbb, sab1] _ (HFR25.out.keep (Mod.alloc (Mod.refl (fun _ => False) _) _) (fun _ _ h => h)) ⟨cells_lit rfl, by decide, by unfold maxLen; omega, fun a ha => by obtain rfl := Option.some.inj ha; exact ⟨_, _, Has.new _ _ _⟩⟩).mono ?_
  rintro e w6 ⟨rfl, hx6⟩
  have hm6 : Mod (fun _ => False) w5 w6 := by obtain ⟨n6, rfl⟩ := hx6; exact (Mod.alloc (Mod.refl _ _) _).drewN _
  have HM6 := Lib.hid hm6
  clear hx6 hm6
  go_wp2_with fail
  refine (same_calls A3 _ c3 1 [sc1] _ (HFR35.out.keep (Mod.alloc HM6.out _) (fun _ _ h => h)) ⟨cells_lit rfl, by decide, by unfold maxLen; omega, fun a ha => by obtain rfl := Option.some.inj ha; exact ⟨_, _, Has.new _ _ _⟩⟩).mono ?_
  rintro e w7 ⟨rfl, hx7⟩
  have hm7 : Mod (fun _ => False) w5 w7 := by obtain ⟨n7, rfl⟩ := hx7; exact (Mod.alloc HM6.out _).drewN _
  have HM7 := Lib.hid hm7
  clear hx7 hm7
  go_wp2_with fail
  refine (sent_calls (sent := 3) w7 (HB5.out.net.keep HM7.out (fun _ _ h => h))).mono ?_
  rintro e w8 ⟨rfl, hw⟩; subst hw
  go_wp2_with fail
  refine (left_calls (sent := 3) w8 (HB5.out.net.keep HM7.out (fun _ _ h => h))).mono ?_
  rintro e w9 ⟨rfl, hw⟩; subst hw
  go_wp2_with fail
  go_ret
  have h1 := HW2.out.trans (HW3.out.trans HW4.out)
  exact ⟨rfl, Mod.trans (Mod.trans HM1.out h1.mod (fun i hi h => by
    rcases h with h | h
    · have := HF1.out i h; omega
    · exact h.1.elim)) (Mod.trans HM5.out HM7.out (fun _ _ h => h)) (fun _ _ h => h)⟩
end Net
end Go.Proofs.Ytocpifoimoaibaa
