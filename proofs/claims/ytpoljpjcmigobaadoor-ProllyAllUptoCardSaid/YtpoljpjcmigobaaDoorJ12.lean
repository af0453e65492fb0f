/- Joined texts: ObjM, ObjN, ObjP. -/
import Derived.Test.YtpoljpjcmigobaaDoorJ11
import Derived.Test.YtpoljpjcmigobaaDoorJ9
/- A maker's writer, as one thing; the walk of object's Fan. -/
namespace Go.Proofs.YtpoljpjcmigobaaDoor
set_option linter.unusedVariables false
set_option linter.unusedSimpArgs false
open Go.RowKit K Wire
namespace Obj

/-- the writer of a maker that began in w0: its block, what was put -/
structure At (w0 : World) (b : Nat) (x : W) (w : World) : Prop where
  ex : ∃ v, WAt w w0.heap.size b 125 [] x.l x.bad v
  base : w0.heap.size ≤ b
  mod : Mod (fun _ => False) w0 w
/-- what lies beside a writer's block -/
def Keeps (b : Nat) (w w' : World) : Prop := ∀ k cs U, Has w k cs U → k ≠ b → U ≠ 5 → Has w' k cs U
/-- a step of a maker's writer -/
def AtPost (w0 : World) (b : Nat) (x : W) (w : World) (e : Ending) (w' : World) : Prop := e = .returned (.tuple #[]) ∧ At w0 b x w' ∧ Keeps b w w'

theorem At.newer {w0 : World} {b : Nat} {x : W} {w w' : World} (h : At w0 b x w) (m : Mod (fun _ => False) w w') : At w0 b x w' := by
  obtain ⟨⟨v, hW⟩, hb, hm⟩ := h
  exact ⟨⟨v, hW.keep m (fun h => h) (fun _ _ h => h)⟩, hb, Mod.trans hm m fun _ _ h => h⟩
theorem At.drew {w0 : World} {b : Nat} {x : W} {w : World} (h : At w0 b x w) : At w0 b x w.drew := h.newer (Mod.drew (Mod.refl _ _))
theorem At.alloc {w0 : World} {b : Nat} {x : W} {w : World} (h : At w0 b x w) (o : Go.Obj) : At w0 b x (w.alloc o) := h.newer (Mod.alloc (Mod.refl _ _) o)
theorem At.step {w0 : World} {b : Nat} {x x' : W} {w w' : World} {v : Value} {e : Ending} (h : At w0 b x w) (hW : WAt w w0.heap.size b 125 [] x.l x.bad v)
    (h2 : WOp w0.heap.size b 125 [] x'.l x'.bad v w e w') : AtPost w0 b x' w e w' := by
  obtain ⟨he, v', hW', hm⟩ := h2
  refine ⟨he, ⟨⟨v', hW'⟩, h.base, Mod.trans h.mod hm fun i hi hS => ?_⟩, fun k cs U hk hkb hU => hk.keep hm fun hS => ?_⟩
  · rcases hS with rfl | hS
    · have := h.base; omega
    · have := (hW.own.lt _ hS).1; omega
  · rcases hS with hS | hS
    · exact hkb hS
    · exact has_ne hk (own_row hW.own hS) hU rfl
theorem At.asked {w0 : World} {b : Nat} {x : W} {bad' : Bool} {w w' : World} {v : Value} {e : Ending} (h : At w0 b x w) (hW : WAt w w0.heap.size b 125 [] x.l x.bad v)
    (h2 : e = .returned (.tuple #[]) ∧ Has w' b (v :: .bool bad' :: []) 125 ∧ Mod (fun k => k = b) w w') : AtPost w0 b ⟨x.l, bad'⟩ w e w' := by
  obtain ⟨he, hh, hm⟩ := h2
  refine h.step hW ⟨he, v, ⟨hh, own_keep hW.own hm (fun k _ hk hkb => hW.ne (by decide) k hk hkb), Nat.le_trans hW.base hm.size⟩, hm.mono fun _ _ h => .inl h⟩

theorem begin_at (c : UInt8) (w : World) : Calls Tryd.prog 48 #[.int .u8 (c.toNat : Int)] w fun e w' => ∃ b, e = .returned (.pointer (some ⟨b, 0, none⟩)) ∧ At w b ⟨[c], false⟩ w' := by
  refine (begin_calls c w).mono ?_
  rintro e w' ⟨b, v, he, hW, hb, hm⟩
  exact ⟨b, he, ⟨v, hW⟩, hb, hm⟩
theorem int_at {w0 : World} {b : Nat} {x : W} {w : World} (h : At w0 b x w) (n lo hi : Int) (hn : In64 n) (hl : x.l.length ≤ 100000000) :
    Calls Tryd.prog 49 #[.pointer (some ⟨b, 0, none⟩), .int .i64 n, .int .i64 lo, .int .i64 hi] w (AtPost w0 b (W.int n lo hi x) w) := by
  obtain ⟨v, hW⟩ := h.ex
  exact (int_calls _ b _ [] x.l x.bad v n lo hi w hW (by decide) hn hl).mono fun e w' h2 => h.step hW h2
theorem text_at {w0 : World} {b : Nat} {x : W} {w : World} (h : At w0 b x w) (s : ByteArray) (lo hi : Int) (hs : s.size ≤ 100000000) (hl : x.l.length ≤ 100000000) :
    Calls Tryd.prog 50 #[.pointer (some ⟨b, 0, none⟩), .string s, .int .i64 lo, .int .i64 hi] w (AtPost w0 b (W.text s lo hi x) w) := by
  obtain ⟨v, hW⟩ := h.ex
  exact (text_calls _ b _ [] x.l x.bad v s lo hi w hW (by decide) hs hl).mono fun e w' h2 => h.step hW h2
theorem id_at {w0 : World} {b : Nat} {x : W} {w : World} (h : At w0 b x w) (s : ByteArray) (hs : s.size ≤ 100000000) (hl : x.l.length ≤ 100000000) :
    Calls Tryd.prog 55 #[.pointer (some ⟨b, 0, none⟩), .string s] w (AtPost w0 b (W.id s x) w) := by
  obtain ⟨v, hW⟩ := h.ex
  exact (id_calls _ b _ [] x.l x.bad v s w hW (by decide) hs hl).mono fun e w' h2 => h.step hW h2
theorem ask_at {w0 : World} {b : Nat} {x : W} {w : World} (h : At w0 b x w) (ok : Bool) :
    Calls Tryd.prog 75 #[.pointer (some ⟨b, 0, none⟩), .bool ok] w (AtPost w0 b (W.ask ok x) w) := by
  obtain ⟨v, hW⟩ := h.ex
  exact (ask_calls b _ v x.bad ok [] w hW.has).mono fun e w' h2 => h.asked hW h2
theorem sumL_at {w0 : World} {b : Nat} {x : W} {w : World} (h : At w0 b x w) (A : Option Addr) (c : Nat) (l : List Link) (most : Int) (hA : Cells w A (l.flatMap lc)) (hc : l.length ≤ 100000000) (hm : 0 ≤ most ∧ most ≤ 1000000000) (hs : ∀ p ∈ l, In64 p.many) :
    Calls Tryd.prog 58 #[.pointer (some ⟨b, 0, none⟩), .slice A l.length c, .func (.func 59) #[] #[], .int .i64 most] w (AtPost w0 b (W.ask (decide (capSum most (l.map (·.many)) ≤ most)) x) w) := by
  obtain ⟨v, hW⟩ := h.ex
  exact (sumL_calls b _ v x.bad [] A c l most w hW.has hA hc hm hs).mono fun e w' h2 => h.asked hW h2
theorem risingP_at {w0 : World} {b : Nat} {x : W} {w : World} (h : At w0 b x w) (A : Option Addr) (c : Nat) (l : List Pair) (hA : Cells w A (l.flatMap kc)) (hAb : ∀ a, A = some a → l ≠ [] → a.block ≠ b) (hc : l.length ≤ 100000000) :
    Calls Tryd.prog 51 #[.pointer (some ⟨b, 0, none⟩), .slice A l.length c, .func (.func 52) #[] #[]] w (AtPost w0 b (W.ask (rises (l.map (·.key))) x) w) := by
  obtain ⟨v, hW⟩ := h.ex
  exact (risingP_calls b _ v x.bad [] A c l w hW.has hA hAb hc).mono fun e w' h2 => h.asked hW h2
theorem risingL_at {w0 : World} {b : Nat} {x : W} {w : World} (h : At w0 b x w) (A : Option Addr) (c : Nat) (l : List Link) (hA : Cells w A (l.flatMap lc)) (hAb : ∀ a, A = some a → l ≠ [] → a.block ≠ b) (hc : l.length ≤ 100000000) :
    Calls Tryd.prog 56 #[.pointer (some ⟨b, 0, none⟩), .slice A l.length c, .func (.func 57) #[] #[]] w (AtPost w0 b (W.ask (rises (l.map (·.last))) x) w) := by
  obtain ⟨v, hW⟩ := h.ex
  exact (risingL_calls b _ v x.bad [] A c l w hW.has hA hAb hc).mono fun e w' h2 => h.asked hW h2
theorem object_at {w0 : World} {b : Nat} {x : W} {w : World} (h : At w0 b x w) (hK : Hash.Keys w) (hl : x.bad = false → x.l.length ≤ 1048576) :
    Calls Tryd.prog 53 #[.pointer (some ⟨b, 0, none⟩)] w fun e w' => e = .returned (putV x.l x.bad) ∧ Mod (fun _ => False) w w' := by
  obtain ⟨v, hW⟩ := h.ex
  exact object_calls _ b _ [] x.l x.bad v w hW (by decide) hK hl

theorem enc_pos (n : Int) : 1 ≤ (enc n).length := by
  unfold enc; rw [encU]; split <;> simp
theorem flatMap_take {α : Type} (f : α → List UInt8) (l : List α) (k : Nat) : ((l.take k).flatMap f).length ≤ (l.flatMap f).length := by
  conv => rhs; rw [← List.take_append_drop k l, List.flatMap_append, List.length_append]
  omega
theorem flatMap_most {α : Type} (f : α → List UInt8) (m : Nat) : ∀ l : List α, (∀ a ∈ l, (f a).length ≤ m) → (l.flatMap f).length ≤ l.length * m
  | [], _ => by simp
  | a :: l, h => by
    rw [List.flatMap_cons, List.length_append, List.length_cons, Nat.succ_mul]
    have := h a (by simp)
    have := flatMap_most f m l fun a ha => h a (by simp [ha])
    omega
theorem flatMap_least {α : Type} (f : α → List UInt8) (a : α) : ∀ l : List α, a ∈ l → (f a).length ≤ (l.flatMap f).length
  | b :: l, h => by
    rw [List.flatMap_cons, List.length_append]
    rcases List.mem_cons.1 h with rfl | h
    · omega
    · have := flatMap_least f a l h; omega

theorem fan_len (level : Int) (kids : List Part) (hlv : In64 level) (hs : ∀ p ∈ kids, In64 p.size) (h : rightFan level kids = true) : (fanB level kids).length ≤ 1048576 := by
  simp only [rightFan, Bool.and_eq_true] at h
  obtain ⟨⟨⟨_, hn⟩, ha⟩, _⟩ := h
  simp only [inR, Bool.and_eq_true, decide_eq_true_eq] at hn
  have h1 := flatMap_most partB 42 kids fun p hp => by
    have h2 := List.all_eq_true.1 ha p hp
    simp only [partOk, Bool.and_eq_true, decide_eq_true_eq] at h2
    have := enc_len p.size (hs p hp)
    have e : p.id.data.toList.length = p.id.size := by simp
    simp only [partB, List.length_append]
    omega
  have := enc_len level hlv
  have := enc_len (kids.length : Int) (by unfold In64; omega)
  simp only [fanB, List.length_append, List.length_cons]
  omega
end Obj
end Go.Proofs.YtpoljpjcmigobaaDoor
/- The walk of object's Leaf. -/
namespace Go.Proofs.YtpoljpjcmigobaaDoor
set_option linter.unusedVariables false
set_option linter.unusedSimpArgs false
open Go.RowKit K Wire
namespace Obj

theorem encT_len (s : ByteArray) (h : s.size ≤ 1048576) : (encT s.data.toList).length ≤ 10 + s.size := by
  have e3 := enc_len (s.size : Int) (by unfold In64; omega)
  have e : s.data.toList.length = s.size := by simp
  simp only [encT, List.length_append, e]
  omega
theorem encT_least (s : ByteArray) : s.size ≤ (encT s.data.toList).length := by
  have e : s.data.toList.length = s.size := by simp
  simp only [encT, List.length_append, e]
  omega
theorem leaf_len (kids : List Pair) (h : rightLeaf kids = true) : (leafB kids).length ≤ 1048576 := by
  simp only [rightLeaf, Bool.and_eq_true] at h
  obtain ⟨⟨hn, ha⟩, _⟩ := h
  simp only [inR, Bool.and_eq_true, decide_eq_true_eq] at hn
  have h1 := flatMap_most pairB 212 kids fun p hp => by
    have h2 := List.all_eq_true.1 ha p hp
    simp only [pairOk, inR, Bool.and_eq_true, decide_eq_true_eq] at h2
    have := encT_len p.key (by omega)
    have := encT_len p.val (by omega)
    simp only [pairB, List.length_append]
    omega
  have := enc_len (kids.length : Int) (by unfold In64; omega)
  simp only [leafB, List.length_append, List.length_cons]
  omega
set_option maxRecDepth 100000 in
set_option maxHeartbeats 1000000 in
theorem leaf_calls (A : Option Addr) (c : Nat) (kids : List Pair) (w : World) (hK : Hash.Keys w) (hA : Cells w A (kids.flatMap kc)) (hc : kids.length ≤ 100000000) (hl : (leafB kids).length ≤ 100000000) :
    Calls Tryd.prog 24 #[.slice A kids.length c] w fun e w' => e = .returned (putV (leafB kids) (!rightLeaf kids)) ∧ Mod (fun _ => False) w w' := by
  have HL := Lib.hid hl
  have HK := Lib.hid hK
  have HA := Lib.hid hA
  clear hl hK hA
  go_enter Tryd.func24, Tryd.ntmps24
  go_wp2_with fail
  refine (begin_at 76 _).mono ?_
  rintro e w1 ⟨b, rfl, h1⟩
  have hR := Has.new w [.string ⟨#[]⟩, .string ⟨#[]⟩] 59
  have hA0 := HA.out.alloc (.cells #[.string ⟨#[]⟩, .string ⟨#[]⟩] 59)
  have hM0 := (Mod.refl (fun _ => False) w).alloc (.cells #[.string ⟨#[]⟩, .string ⟨#[]⟩] 59)
  have hab : ∀ a, A = some a → kids ≠ [] → a.block ≠ b := by
    intro a ha hne
    rcases HA.out with h | ⟨ba, o, rfl, hcell⟩
    · have := flat_len kc_len kids; rw [h] at this; simp at this; exact absurd (List.eq_nil_of_length_eq_zero (by omega)) hne
    · have h0 : 0 < kids.length := List.length_pos_iff.2 hne
      have hbl : ba < w.heap.size := World.block_lt_of_cell? w _ (hcell _ _ (flat_get kc_len kids 0 0 h0 (by omega)))
      have hbb := h1.base
      simp only [size_alloc] at hbb
      cases ha
      show ba ≠ b
      omega
  have HAB := Lib.hid hab
  generalize hw0 : w.alloc _ = w0 at h1 hR hA0 hM0
  have HR := Lib.hid hR
  have HA0 := Lib.hid hA0
  have HM0 := Lib.hid hM0
  have H1 := Lib.hid h1
  clear hR hA0 hM0 h1 HA hw0 hab
  go_wp2_with fail
  refine (int_at H1.out (kids.length : Int) 0 64 (by unfold In64; omega) (by simp)).mono ?_
  rintro e w3 ⟨rfl, h3, _⟩
  have hpre : ∀ k, ((kids.take k).foldl (fun x a => pairW a x) (leafW0 kids)).l.length ≤ 100000000 := fun k => by
    rw [fold_l pairW pairB pairW_l]
    have h1 := HL.out
    have h2 := flatMap_take pairB kids k
    simp only [leafB, leafW0, W.int, List.length_append, List.length_cons, List.length_nil] at h1 ⊢
    omega
  have HP := Lib.hid hpre
  have hid : ∀ p ∈ kids, p.key.size ≤ 100000000 ∧ p.val.size ≤ 100000000 := fun p hp => by
    have h1 := HL.out
    have h2 := flatMap_least pairB p kids hp
    have h3 := encT_least p.key
    have h4 := encT_least p.val
    simp only [leafB, pairB, List.length_append, List.length_cons] at h1 h2
    omega
  have HI := Lib.hid hid
  have H3 : Hid (At w0 b (leafW0 kids) w3) := Lib.hid h3
  clear h3 hpre hid
  go_wp2_with fail
  go_loopw [14] (fun i wr => ∃ (k : Nat), i = .int .i64 k ∧ k ≤ kids.length ∧ Hid (At w0 b ((kids.take k).foldl (fun x a => pairW a x) (leafW0 kids)) wr)) (fun i _ => kids.length - (intOf i).toNat)
  case atStart => exact ⟨0, by go_num, by omega, H3⟩
  case round =>
    obtain ⟨k, rfl, hk, H⟩ := hrel
    by_cases hlt : k < kids.length
    · have i1 : (k : Int) < (kids.length : Int) := by omega
      rcases HA0.out.keep H.out.mod (fun _ _ h => h) with h | ⟨ba, o, rfl, hcell⟩
      · have := flat_len kc_len kids; rw [h] at this; simp at this; omega
      have y0 := hcell _ _ (flat_get kc_len kids k 0 hlt (by omega))
      have y1 := hcell _ _ (flat_get kc_len kids k 1 hlt (by omega))
      rw [Nat.add_zero] at y0
      rw [← Nat.add_assoc] at y1
      have hbl : ba < wr.heap.size := World.block_lt_of_cell? wr _ y0
      have hii := HI.out kids[k] (List.getElem_mem hlt)
      have HT := Lib.hid (take_fold pairW kids (leafW0 kids) k hlt)
      have hpk := HP.out k
      have HPK := Lib.hid hpk
      have hpk1 := HP.out (k + 1)
      rw [HT.out] at hpk1
      have HPK1 := Lib.hid hpk1
      generalize kids[k] = p at *
      have HII := Lib.hid hii
      generalize (kids.take k).foldl (fun x a => pairW a x) (leafW0 kids) = xk at *
      clear hcell hpk hpk1 hii HAB
      go_wp2_with fail
      refine (text_at (H.out.alloc _) p.key 1 64 HII.out.1 HPK.out).mono ?_
      rintro e w4 ⟨rfl, h4, hk4⟩
      have z1 := (hk4 _ _ _ (Has.new wr [.string p.key, .string p.val] _) (by have := H.out.ex.choose_spec.has.lt; omega) (by decide)).cell (o := 1) rfl
      have H4 := Lib.hid h4
      clear h4 hk4
      go_wp2_with fail
      refine (text_at H4.out p.val 0 128 HII.out.2 ?_).mono ?_
      · have h1 := HPK1.out
        rw [pairW_l] at h1
        simp only [pairB, W.text, List.length_append] at h1 ⊢
        omega
      rintro e w5 ⟨rfl, h5, _⟩
      have H5 : Hid (At w0 b (pairW p xk) w5) := Lib.hid h5
      clear h5
      go_wp2_with fail
      go_roundw
      case rel => exact ⟨k + 1, by go_num, by omega, Lib.hid (by rw [HT.out]; exact H5.out)⟩
      case measure => simp [intOf]; omega
    · have hkl : k = kids.length := by omega
      have i1 : ¬ (k : Int) < (kids.length : Int) := by omega
      have h6 := H.out
      rw [hkl, List.take_length] at h6
      have H6 := Lib.hid h6
      clear h6 H hkl
      go_wp2_with fail
      refine (risingP_at H6.out A c kids (HA0.out.keep H6.out.mod (fun _ _ h => h)) HAB.out hc).mono ?_
      rintro e w7 ⟨rfl, h7, _⟩
      have h7 : At w0 b (leafW kids) w7 := h7
      have hO := object_at h7 (HK.out.keep (Mod.trans HM0.out h7.mod (fun _ _ h => h)) (fun h => h)) (fun hb => by rw [leafW_bad] at hb; rw [leafW_l]; exact leaf_len kids (by simpa using hb))
      rw [leafW_l, leafW_bad] at hO
      have H7 := Lib.hid h7.mod
      clear h7
      cases hr : rightLeaf kids with
      | true =>
        rw [hr, Bool.not_true] at hO
        have HR' := Lib.hid hr
        have HO := Lib.hid hO
        clear hO hr
        go_wp2_with fail
        refine HO.out.mono ?_
        rintro e w8 ⟨rfl, hm8⟩
        have hm8' := Mod.trans H7.out hm8 (fun _ _ h => h)
        have hr8 := HR.out.keep hm8' (fun h => h)
        have z0 := hr8.cell (o := 0) rfl
        have z1 := hr8.cell (o := 1) rfl
        have k0 := hr8.frozen 0
        have k1 := hr8.frozen 1
        have HM8 := Lib.hid (Mod.trans HM0.out hm8' (fun _ _ h => h))
        rw [putV_f]
        clear hr8 hm8 hm8'
        go_wp2_with fail
        refine bodyPost_ret (v := putV (leafB kids) false) (by simp [results, Tryd.results24, go_sem, putV_f, z0, z1]) rfl ⟨by rw [HR'.out]; rfl, ?_⟩
        exact (HM8.out.setCell (p := ⟨w.heap.size, 0, none⟩) (.inr (by simp)) _).setCell (p := ⟨w.heap.size, 1, none⟩) (.inr (by simp)) _
      | false =>
        rw [hr, Bool.not_false] at hO
        have HR' := Lib.hid hr
        have HO := Lib.hid hO
        clear hO hr
        go_wp2_with fail
        refine HO.out.mono ?_
        rintro e w8 ⟨rfl, hm8⟩
        have hm8' := Mod.trans H7.out hm8 (fun _ _ h => h)
        have hr8 := HR.out.keep hm8' (fun h => h)
        have z0 := hr8.cell (o := 0) rfl
        have z1 := hr8.cell (o := 1) rfl
        have k0 := hr8.frozen 0
        have k1 := hr8.frozen 1
        have HM8 := Lib.hid (Mod.trans HM0.out hm8' (fun _ _ h => h))
        rw [putV_t]
        clear hr8 hm8 hm8'
        go_wp2_with fail
        refine bodyPost_ret (v := putV (leafB kids) true) (by simp [results, Tryd.results24, go_sem, putV_t, z0, z1]) rfl ⟨by rw [HR'.out]; rfl, ?_⟩
        exact (HM8.out.setCell (p := ⟨w.heap.size, 0, none⟩) (.inr (by simp)) _).setCell (p := ⟨w.heap.size, 1, none⟩) (.inr (by simp)) _
end Obj
end Go.Proofs.YtpoljpjcmigobaaDoor
/- The walk of object's Branch. -/
namespace Go.Proofs.YtpoljpjcmigobaaDoor
set_option linter.unusedVariables false
set_option linter.unusedSimpArgs false
open Go.RowKit K Wire
namespace Obj
theorem branch_len (level : Int) (kids : List Link) (hlv : In64 level) (hs : ∀ p ∈ kids, In64 p.many) (h : rightBranch level kids = true) : (branchB level kids).length ≤ 1048576 := by
  simp only [rightBranch, Bool.and_eq_true] at h
  obtain ⟨⟨⟨⟨_, hn⟩, ha⟩, _⟩, _⟩ := h
  simp only [inR, Bool.and_eq_true, decide_eq_true_eq] at hn
  have h1 := flatMap_most linkB 116 kids fun p hp => by
    have h2 := List.all_eq_true.1 ha p hp
    simp only [linkOk, inR, Bool.and_eq_true, decide_eq_true_eq] at h2
    have := encT_len p.last (by omega)
    have := enc_len p.many (hs p hp)
    have e : p.id.data.toList.length = p.id.size := by simp
    simp only [linkB, List.length_append]
    omega
  have := enc_len level hlv
  have := enc_len (kids.length : Int) (by unfold In64; omega)
  simp only [branchB, List.length_append, List.length_cons]
  omega
set_option maxRecDepth 100000 in
set_option maxHeartbeats 1000000 in
theorem branch_calls (level : Int) (A : Option Addr) (c : Nat) (kids : List Link) (w : World) (hK : Hash.Keys w) (hA : Cells w A (kids.flatMap lc)) (hc : kids.length ≤ 100000000) (hlv : In64 level) (hs : ∀ p ∈ kids, In64 p.many) (hl : (branchB level kids).length ≤ 100000000) :
    Calls Tryd.prog 29 #[.agg #[.int .i64 level, .slice A kids.length c]] w fun e w' => e = .returned (putV (branchB level kids) (!rightBranch level kids)) ∧ Mod (fun _ => False) w w' := by
  have HL := Lib.hid hl
  have HK := Lib.hid hK
  have HA := Lib.hid hA
  have HS := Lib.hid hs
  have HLV := Lib.hid hlv
  clear hl hK hA hs hlv
  go_enter Tryd.func29, Tryd.ntmps29
  go_wp2_with fail
  refine (begin_at 66 _).mono ?_
  rintro e w1 ⟨b, rfl, h1⟩
  have hX := ((Has.new w [.int .i64 level, .slice A kids.length c] 72).alloc (.cells #[.string ⟨#[]⟩, .string ⟨#[]⟩] 59))
  have hab : ∀ a, A = some a → kids ≠ [] → a.block ≠ b := by
    intro a ha hne
    rcases HA.out with h | ⟨ba, o, rfl, hcell⟩
    · have := flat_len lc_len kids; rw [h] at this; simp at this; exact absurd (List.eq_nil_of_length_eq_zero (by omega)) hne
    · have h0 : 0 < kids.length := List.length_pos_iff.2 hne
      have hbl : ba < w.heap.size := World.block_lt_of_cell? w _ (hcell _ _ (flat_get lc_len kids 0 0 h0 (by omega)))
      have hbb := h1.base
      simp only [size_alloc] at hbb
      cases ha
      show ba ≠ b
      omega
  have HAB := Lib.hid hab
  have hR := (Has.new (w.alloc (.cells #[.int .i64 level, .slice A kids.length c] 72)) [.string ⟨#[]⟩, .string ⟨#[]⟩] 59)
  have hA0 := (HA.out.alloc (.cells #[.int .i64 level, .slice A kids.length c] 72)).alloc (.cells #[.string ⟨#[]⟩, .string ⟨#[]⟩] 59)
  have hM0 := ((Mod.refl (fun _ => False) w).alloc (.cells #[.int .i64 level, .slice A kids.length c] 72)).alloc (.cells #[.string ⟨#[]⟩, .string ⟨#[]⟩] 59)
  simp only [size_alloc] at hR
  generalize hw0 : (w.alloc _).alloc _ = w0 at h1 hX hR hA0 hM0
  have HX := Lib.hid hX
  have HR := Lib.hid hR
  have HA0 := Lib.hid hA0
  have HM0 := Lib.hid hM0
  have x0 := (hX.keep h1.mod (fun h => h)).cell (o := 0) rfl
  have H1 := Lib.hid h1
  clear hX hR hA0 hM0 h1 HA hw0 hab
  go_wp2_with fail
  refine (int_at H1.out level 1 20 HLV.out (by simp)).mono ?_
  rintro e w2 ⟨rfl, h2, _⟩
  have x1 := (HX.out.keep h2.mod (fun h => h)).cell (o := 1) rfl
  have H2 := Lib.hid h2
  clear h2 x0
  go_wp2_with fail
  refine (int_at H2.out (kids.length : Int) 1 64 (by unfold In64; omega) (by have := HL.out; simp only [branchB, W.int, List.length_append, List.length_cons, List.length_nil] at this ⊢; omega)).mono ?_
  rintro e w3 ⟨rfl, h3, _⟩
  have x1 := (HX.out.keep h3.mod (fun h => h)).cell (o := 1) rfl
  have hpre : ∀ k, ((kids.take k).foldl (fun x a => linkW a x) (branchW0 level kids)).l.length ≤ 100000000 := fun k => by
    rw [fold_l linkW linkB linkW_l]
    have h1 := HL.out
    have h2 := flatMap_take linkB kids k
    simp only [branchB, branchW0, W.int, List.length_append, List.length_cons, List.length_nil] at h1 ⊢
    omega
  have HP := Lib.hid hpre
  have hid : ∀ p ∈ kids, p.id.size ≤ 100000000 ∧ p.last.size ≤ 100000000 := fun p hp => by
    have h1 := HL.out
    have h2 := flatMap_least linkB p kids hp
    have h3 := encT_least p.last
    have e : p.id.data.toList.length = p.id.size := by simp
    simp only [branchB, linkB, List.length_append, List.length_cons] at h1 h2
    omega
  have HI := Lib.hid hid
  have H3 : Hid (At w0 b (branchW0 level kids) w3) := Lib.hid h3
  clear h3 hpre hid
  go_wp2_with fail
  go_loopw [20] (fun i wr => ∃ (k : Nat), i = .int .i64 k ∧ k ≤ kids.length ∧ Hid (At w0 b ((kids.take k).foldl (fun x a => linkW a x) (branchW0 level kids)) wr)) (fun i _ => kids.length - (intOf i).toNat)
  case atStart => exact ⟨0, by go_num, by omega, H3⟩
  case round =>
    obtain ⟨k, rfl, hk, H⟩ := hrel
    by_cases hlt : k < kids.length
    · have i1 : (k : Int) < (kids.length : Int) := by omega
      rcases HA0.out.keep H.out.mod (fun _ _ h => h) with h | ⟨ba, o, rfl, hcell⟩
      · have := flat_len lc_len kids; rw [h] at this; simp at this; omega
      have y0 := hcell _ _ (flat_get lc_len kids k 0 hlt (by omega))
      have y1 := hcell _ _ (flat_get lc_len kids k 1 hlt (by omega))
      have y2 := hcell _ _ (flat_get lc_len kids k 2 hlt (by omega))
      rw [Nat.add_zero] at y0
      rw [← Nat.add_assoc] at y1 y2
      have hbl : ba < wr.heap.size := World.block_lt_of_cell? wr _ y0
      have hin := HS.out kids[k] (List.getElem_mem hlt)
      have hii := HI.out kids[k] (List.getElem_mem hlt)
      have HT := Lib.hid (take_fold linkW kids (branchW0 level kids) k hlt)
      have hpk := HP.out k
      have HPK := Lib.hid hpk
      have hpk1 := HP.out (k + 1)
      rw [HT.out] at hpk1
      have HPK1 := Lib.hid hpk1
      generalize kids[k] = p at *
      have HIN := Lib.hid hin
      have HII := Lib.hid hii
      generalize (kids.take k).foldl (fun x a => linkW a x) (branchW0 level kids) = xk at *
      clear hcell hpk hpk1 hin hii HAB
      go_wp2_with fail
      refine (text_at (H.out.alloc _) p.last 1 64 HII.out.2 HPK.out).mono ?_
      rintro e w4 ⟨rfl, h4, hk4⟩
      have hp4 := hk4 _ _ _ (Has.new wr [.string p.last, .string p.id, .int .i64 p.many] _) (by have := H.out.ex.choose_spec.has.lt; omega) (by decide)
      have z1 := hp4.cell (o := 1) rfl
      have hb4 : wr.heap.size ≠ b := by have := H.out.ex.choose_spec.has.lt; omega
      have HP4 := Lib.hid hp4
      have H4 := Lib.hid h4
      clear h4 hk4 hp4
      go_wp2_with fail
      refine (id_at H4.out p.id HII.out.1 ?_).mono ?_
      · have h1 := HPK1.out
        rw [linkW_l] at h1
        simp only [linkB, W.text, List.length_append] at h1 ⊢
        omega
      rintro e w6 ⟨rfl, h6, hk6⟩
      have z2 := (hk6 _ _ _ HP4.out hb4 (by decide)).cell (o := 2) rfl
      have H6 := Lib.hid h6
      clear h6 hk6
      go_wp2_with fail
      refine (int_at H6.out p.many 1 4096 HIN.out ?_).mono ?_
      · have h1 := HPK1.out
        rw [linkW_l] at h1
        simp only [linkB, W.id, W.text, List.length_append] at h1 ⊢
        omega
      rintro e w5 ⟨rfl, h5, _⟩
      have H5 : Hid (At w0 b (linkW p xk) w5) := Lib.hid h5
      clear h5
      go_wp2_with fail
      go_roundw
      case rel => exact ⟨k + 1, by go_num, by omega, Lib.hid (by rw [HT.out]; exact H5.out)⟩
      case measure => simp [intOf]; omega
    · have hkl : k = kids.length := by omega
      have i1 : ¬ (k : Int) < (kids.length : Int) := by omega
      have h6 := H.out
      rw [hkl, List.take_length] at h6
      have x1 := (HX.out.keep h6.mod (fun h => h)).cell (o := 1) rfl
      have H6 := Lib.hid h6
      clear h6 H hkl
      go_wp2_with fail
      refine (risingL_at H6.out A c kids (HA0.out.keep H6.out.mod (fun _ _ h => h)) HAB.out hc).mono ?_
      rintro e w9 ⟨rfl, h9, _⟩
      have x1 := (HX.out.keep h9.mod (fun h => h)).cell (o := 1) rfl
      have H9 := Lib.hid h9
      clear h9
      go_wp2_with fail
      refine (sumL_at H9.out A c kids 4096 (HA0.out.keep H9.out.mod (fun _ _ h => h)) hc (by omega) HS.out).mono ?_
      rintro e w7 ⟨rfl, h7, _⟩
      have h7 : At w0 b (branchW level kids) w7 := h7
      have hO := object_at h7 (HK.out.keep (Mod.trans HM0.out h7.mod (fun _ _ h => h)) (fun h => h)) (fun hb => by rw [branchW_bad] at hb; rw [branchW_l]; exact branch_len level kids HLV.out HS.out (by simpa using hb))
      rw [branchW_l, branchW_bad] at hO
      have H7 := Lib.hid h7.mod
      clear h7
      cases hr : rightBranch level kids with
      | true =>
        rw [hr, Bool.not_true] at hO
        have HR' := Lib.hid hr
        have HO := Lib.hid hO
        clear hO hr
        go_wp2_with fail
        refine HO.out.mono ?_
        rintro e w8 ⟨rfl, hm8⟩
        have hm8' := Mod.trans H7.out hm8 (fun _ _ h => h)
        have hr8 := HR.out.keep hm8' (fun h => h)
        have z0 := hr8.cell (o := 0) rfl
        have z1 := hr8.cell (o := 1) rfl
        have k0 := hr8.frozen 0
        have k1 := hr8.frozen 1
        have HM8 := Lib.hid (Mod.trans HM0.out hm8' (fun _ _ h => h))
        rw [putV_f]
        clear hr8 hm8 hm8'
        go_wp2_with fail
        refine bodyPost_ret (v := putV (branchB level kids) false) (by simp [results, Tryd.results29, go_sem, putV_f, z0, z1]) rfl ⟨by rw [HR'.out]; rfl, ?_⟩
        exact (HM8.out.setCell (p := ⟨w.heap.size + 1, 0, none⟩) (.inr (by simp)) _).setCell (p := ⟨w.heap.size + 1, 1, none⟩) (.inr (by simp)) _
      | false =>
        rw [hr, Bool.not_false] at hO
        have HR' := Lib.hid hr
        have HO := Lib.hid hO
        clear hO hr
        go_wp2_with fail
        refine HO.out.mono ?_
        rintro e w8 ⟨rfl, hm8⟩
        have hm8' := Mod.trans H7.out hm8 (fun _ _ h => h)
        have hr8 := HR.out.keep hm8' (fun h => h)
        have z0 := hr8.cell (o := 0) rfl
        have z1 := hr8.cell (o := 1) rfl
        have k0 := hr8.frozen 0
        have k1 := hr8.frozen 1
        have HM8 := Lib.hid (Mod.trans HM0.out hm8' (fun _ _ h => h))
        rw [putV_t]
        clear hr8 hm8 hm8'
        go_wp2_with fail
        refine bodyPost_ret (v := putV (branchB level kids) true) (by simp [results, Tryd.results29, go_sem, putV_t, z0, z1]) rfl ⟨by rw [HR'.out]; rfl, ?_⟩
        exact (HM8.out.setCell (p := ⟨w.heap.size + 1, 0, none⟩) (.inr (by simp)) _).setCell (p := ⟨w.heap.size + 1, 1, none⟩) (.inr (by simp)) _
end Obj
end Go.Proofs.YtpoljpjcmigobaaDoor
