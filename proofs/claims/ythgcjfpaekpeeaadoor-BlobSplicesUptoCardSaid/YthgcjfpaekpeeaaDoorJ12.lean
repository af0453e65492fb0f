/- Joined texts: ObjM, ObjN, ObjP. -/
import Derived.Test.YthgcjfpaekpeeaaDoorJ11
import Derived.Test.YthgcjfpaekpeeaaDoorJ9
/- A maker's writer, as one thing; the walk of object's Fan. -/
namespace Go.Proofs.YthgcjfpaekpeeaaDoor
set_option linter.unusedVariables false
set_option linter.unusedSimpArgs false
open Go.RowKit K Wire
namespace Obj

/-- the writer of a maker that began in w0: its block, what was put -/
structure At (w0 : World) (b : Nat) (x : W) (w : World) : Prop where
  ex : ∃ v, WAt w w0.heap.size b 91 [] x.l x.bad v
  base : w0.heap.size ≤ b
  mod : Mod (fun _ => False) w0 w
/-- what lies beside a writer's block -/
def Keeps (b : Nat) (w w' : World) : Prop := ∀ k cs U, Has w k cs U → k ≠ b → U ≠ 5 → Has w' k cs U
/-- a step of a maker's writer -/
def AtPost (w0 : World) (b : Nat) (x : W) (w : World) (e : Ending) (w' : World) : Prop := e = .returned (.tuple #[]) ∧ At w0 b x w' ∧ Keeps b w w'

theorem At.newer {w0 : World} {b : Nat} {x : W} {w w' : World} (h : At w0 b x w) (m : Mod (fun _ => False) w w') : At w0 b x w' := by
  obtain ⟨⟨v, hW⟩, hb, hm⟩ := h
  exact ⟨⟨v, hW.keep m (fun h => h) (fun _ _ h => h)⟩, hb, Mod.trans hm m fun _ _ h => h⟩
theorem At.drew {w0 : World} {b : Nat} {x : W} {w : World} (h : At w0 b x w) : At w0 b x w.drew := h.newer (Mod.drew (Mod.refl _ _))
theorem At.alloc {w0 : World} {b : Nat} {x : W} {w : World} (h : At w0 b x w) (o : Go.Obj) : At w0 b x (w.alloc o) := h.newer (Mod.alloc (Mod.refl _ _) o)
theorem At.step {w0 : World} {b : Nat} {x x' : W} {w w' : World} {v : Value} {e : Ending} (h : At w0 b x w) (hW : WAt w w0.heap.size b 91 [] x.l x.bad v)
    (h2 : WOp w0.heap.size b 91 [] x'.l x'.bad v w e w') : AtPost w0 b x' w e w' := by
  obtain ⟨he, v', hW', hm⟩ := h2
  refine ⟨he, ⟨⟨v', hW'⟩, h.base, Mod.trans h.mod hm fun i hi hS => ?_⟩, fun k cs U hk hkb hU => hk.keep hm fun hS => ?_⟩
  · rcases hS with rfl | hS
    · have := h.base; omega
    · have := (hW.own.lt _ hS).1; omega
  · rcases hS with hS | hS
    · exact hkb hS
    · exact has_ne hk (own_row hW.own hS) hU rfl
theorem At.asked {w0 : World} {b : Nat} {x : W} {bad' : Bool} {w w' : World} {v : Value} {e : Ending} (h : At w0 b x w) (hW : WAt w w0.heap.size b 91 [] x.l x.bad v)
    (h2 : e = .returned (.tuple #[]) ∧ Has w' b (v :: .bool bad' :: []) 91 ∧ Mod (fun k => k = b) w w') : AtPost w0 b ⟨x.l, bad'⟩ w e w' := by
  obtain ⟨he, hh, hm⟩ := h2
  refine h.step hW ⟨he, v, ⟨hh, own_keep hW.own hm (fun k _ hk hkb => hW.ne (by decide) k hk hkb), Nat.le_trans hW.base hm.size⟩, hm.mono fun _ _ h => .inl h⟩

theorem begin_at (c : UInt8) (w : World) : Calls Tryd.prog 40 #[.int .u8 (c.toNat : Int)] w fun e w' => ∃ b, e = .returned (.pointer (some ⟨b, 0, none⟩)) ∧ At w b ⟨[c], false⟩ w' := by
  refine (begin_calls c w).mono ?_
  rintro e w' ⟨b, v, he, hW, hb, hm⟩
  exact ⟨b, he, ⟨v, hW⟩, hb, hm⟩
theorem int_at {w0 : World} {b : Nat} {x : W} {w : World} (h : At w0 b x w) (n lo hi : Int) (hn : In64 n) (hl : x.l.length ≤ 100000000) :
    Calls Tryd.prog 56 #[.pointer (some ⟨b, 0, none⟩), .int .i64 n, .int .i64 lo, .int .i64 hi] w (AtPost w0 b (W.int n lo hi x) w) := by
  obtain ⟨v, hW⟩ := h.ex
  exact (int_calls _ b _ [] x.l x.bad v n lo hi w hW (by decide) hn hl).mono fun e w' h2 => h.step hW h2
theorem id_at {w0 : World} {b : Nat} {x : W} {w : World} (h : At w0 b x w) (s : ByteArray) (hs : s.size ≤ 100000000) (hl : x.l.length ≤ 100000000) :
    Calls Tryd.prog 57 #[.pointer (some ⟨b, 0, none⟩), .string s] w (AtPost w0 b (W.id s x) w) := by
  obtain ⟨v, hW⟩ := h.ex
  exact (id_calls _ b _ [] x.l x.bad v s w hW (by decide) hs hl).mono fun e w' h2 => h.step hW h2
theorem ask_at {w0 : World} {b : Nat} {x : W} {w : World} (h : At w0 b x w) (ok : Bool) :
    Calls Tryd.prog 41 #[.pointer (some ⟨b, 0, none⟩), .bool ok] w (AtPost w0 b (W.ask ok x) w) := by
  obtain ⟨v, hW⟩ := h.ex
  exact (ask_calls b _ v x.bad ok [] w hW.has).mono fun e w' h2 => h.asked hW h2
theorem sumP_at {w0 : World} {b : Nat} {x : W} {w : World} (h : At w0 b x w) (A : Option Addr) (c : Nat) (l : List Part) (most : Int) (hA : Cells w A (l.flatMap pc)) (hc : l.length ≤ 100000000) (hm : 0 ≤ most ∧ most ≤ 1000000000) (hs : ∀ p ∈ l, In64 p.size) :
    Calls Tryd.prog 58 #[.pointer (some ⟨b, 0, none⟩), .slice A l.length c, .func (.func 59) #[] #[], .int .i64 most] w (AtPost w0 b (W.ask (decide (capSum most (l.map (·.size)) ≤ most)) x) w) := by
  obtain ⟨v, hW⟩ := h.ex
  exact (sumP_calls b _ v x.bad [] A c l most w hW.has hA hc hm hs).mono fun e w' h2 => h.asked hW h2
theorem object_at {w0 : World} {b : Nat} {x : W} {w : World} (h : At w0 b x w) (hK : Hash.Keys w) (hl : x.bad = false → x.l.length ≤ 1048576) :
    Calls Tryd.prog 42 #[.pointer (some ⟨b, 0, none⟩)] w fun e w' => e = .returned (putV x.l x.bad) ∧ Mod (fun _ => False) w w' := by
  obtain ⟨v, hW⟩ := h.ex
  exact object_calls _ b _ [] x.l x.bad v w hW (by decide) hK hl

theorem enc_pos (n : Int) : 1 ≤ (enc n).length := by
  unfold enc; rw [encU]; split <;> simp
theorem flatMap_take {α : Type} (f : α → List UInt8) (l : List α) (k : Nat) : ((l.take k).flatMap f).length ≤ (l.flatMap f).length := by
  conv => rhs; rw [← List.take_append_drop k l, List.flatMap_append, List.length_append]
  omega
theorem flatMap_most {α : Type} (f : α → List UInt8) (m : Nat) : ∀ l : List α, (∀ a ∈ l, (f a).length ≤ m) → (l.flatMap f).length ≤ l.length * m
  | [], _ => by simp
  | a :: l, h => by
    rw [List.flatMap_cons, List.length_append, List.length_cons, Nat.succ_mul]
    have := h a (by simp)
    have := flatMap_most f m l fun a ha => h a (by simp [ha])
    omega
theorem flatMap_least {α : Type} (f : α → List UInt8) (a : α) : ∀ l : List α, a ∈ l → (f a).length ≤ (l.flatMap f).length
  | b :: l, h => by
    rw [List.flatMap_cons, List.length_append]
    rcases List.mem_cons.1 h with rfl | h
    · omega
    · have := flatMap_least f a l h; omega

theorem fan_len (level : Int) (kids : List Part) (hlv : In64 level) (hs : ∀ p ∈ kids, In64 p.size) (h : rightFan level kids = true) : (fanB level kids).length ≤ 1048576 := by
  simp only [rightFan, Bool.and_eq_true] at h
  obtain ⟨⟨⟨_, hn⟩, ha⟩, _⟩ := h
  simp only [inR, Bool.and_eq_true, decide_eq_true_eq] at hn
  have h1 := flatMap_most partB 42 kids fun p hp => by
    have h2 := List.all_eq_true.1 ha p hp
    simp only [partOk, Bool.and_eq_true, decide_eq_true_eq] at h2
    have := enc_len p.size (hs p hp)
    have e : p.id.data.toList.length = p.id.size := by simp
    simp only [partB, List.length_append]
    omega
  have := enc_len level hlv
  have := enc_len (kids.length : Int) (by unfold In64; omega)
  simp only [fanB, List.length_append, List.length_cons]
  omega
set_option maxRecDepth 100000 in
set_option maxHeartbeats 1000000 in
theorem fan_calls (level : Int) (A : Option Addr) (c : Nat) (kids : List Part) (w : World) (hK : Hash.Keys w) (hA : Cells w A (kids.flatMap pc)) (hc : kids.length ≤ 100000000) (hlv : In64 level) (hs : ∀ p ∈ kids, In64 p.size) (hl : (fanB level kids).length ≤ 100000000) :
    Calls Tryd.prog 44 #[.agg #[.int .i64 level, .slice A kids.length c]] w fun e w' => e = .returned (putV (fanB level kids) (!rightFan level kids)) ∧ Mod (fun _ => False) w w' := by
  have HL := Lib.hid hl
  have HK := Lib.hid hK
  have HA := Lib.hid hA
  have HS := Lib.hid hs
  have HLV := Lib.hid hlv
  clear hl hK hA hs hlv
  go_enter Tryd.func44, Tryd.ntmps44
  go_wp2_with fail
  refine (begin_at 70 _).mono ?_
  rintro e w1 ⟨b, rfl, h1⟩
  have hX := ((Has.new w [.int .i64 level, .slice A kids.length c] 96).alloc (.cells #[.string ⟨#[]⟩, .string ⟨#[]⟩] 60))
  have hR := (Has.new (w.alloc (.cells #[.int .i64 level, .slice A kids.length c] 96)) [.string ⟨#[]⟩, .string ⟨#[]⟩] 60)
  have hA0 := (HA.out.alloc (.cells #[.int .i64 level, .slice A kids.length c] 96)).alloc (.cells #[.string ⟨#[]⟩, .string ⟨#[]⟩] 60)
  have hM0 := ((Mod.refl (fun _ => False) w).alloc (.cells #[.int .i64 level, .slice A kids.length c] 96)).alloc (.cells #[.string ⟨#[]⟩, .string ⟨#[]⟩] 60)
  simp only [size_alloc] at hR
  generalize hw0 : (w.alloc _).alloc _ = w0 at h1 hX hR hA0 hM0
  have HX := Lib.hid hX
  have HR := Lib.hid hR
  have HA0 := Lib.hid hA0
  have HM0 := Lib.hid hM0
  have x0 := (hX.keep h1.mod (fun h => h)).cell (o := 0) rfl
  have H1 := Lib.hid h1
  clear hX hR hA0 hM0 h1 HA hw0
  go_wp2_with fail
  refine (int_at H1.out level 1 20 HLV.out (by simp)).mono ?_
  rintro e w2 ⟨rfl, h2, _⟩
  have x1 := (HX.out.keep h2.mod (fun h => h)).cell (o := 1) rfl
  have H2 := Lib.hid h2
  clear h2 x0
  go_wp2_with fail
  refine (int_at H2.out (kids.length : Int) 1 32 (by unfold In64; omega) (by have := HL.out; simp only [fanB, W.int, List.length_append, List.length_cons, List.length_nil] at this ⊢; omega)).mono ?_
  rintro e w3 ⟨rfl, h3, _⟩
  have x1 := (HX.out.keep h3.mod (fun h => h)).cell (o := 1) rfl
  have hpre : ∀ k, ((kids.take k).foldl (fun x a => partW a x) (fanW0 level kids)).l.length ≤ 100000000 := fun k => by
    rw [fold_l partW partB partW_l]
    have h1 := HL.out
    have h2 := flatMap_take partB kids k
    simp only [fanB, fanW0, W.int, List.length_append, List.length_cons, List.length_nil] at h1 ⊢
    omega
  have HP := Lib.hid hpre
  have hid : ∀ p ∈ kids, p.id.size ≤ 100000000 := fun p hp => by
    have h1 := HL.out
    have h2 := flatMap_least partB p kids hp
    have e : p.id.data.toList.length = p.id.size := by simp
    simp only [fanB, partB, List.length_append, List.length_cons] at h1 h2
    omega
  have HI := Lib.hid hid
  have H3 : Hid (At w0 b (fanW0 level kids) w3) := Lib.hid h3
  clear h3 hpre hid
  go_wp2_with fail
  go_loopw [20] (fun i wr => ∃ (k : Nat), i = .int .i64 k ∧ k ≤ kids.length ∧ Hid (At w0 b ((kids.take k).foldl (fun x a => partW a x) (fanW0 level kids)) wr)) (fun i _ => kids.length - (intOf i).toNat)
  case atStart => exact ⟨0, by go_num, by omega, H3⟩
  case round =>
    obtain ⟨k, rfl, hk, H⟩ := hrel
    by_cases hlt : k < kids.length
    · have i1 : (k : Int) < (kids.length : Int) := by omega
      rcases HA0.out.keep H.out.mod (fun _ _ h => h) with h | ⟨ba, o, rfl, hcell⟩
      · have := flat_len pc_len kids; rw [h] at this; simp at this; omega
      have y0 := hcell _ _ (flat_get pc_len kids k 0 hlt (by omega))
      have y1 := hcell _ _ (flat_get pc_len kids k 1 hlt (by omega))
      rw [Nat.add_zero] at y0
      rw [← Nat.add_assoc] at y1
      have hbl : ba < wr.heap.size := World.block_lt_of_cell? wr _ y0
      have hin := HS.out kids[k] (List.getElem_mem hlt)
      have hii := HI.out kids[k] (List.getElem_mem hlt)
      have HT := Lib.hid (take_fold partW kids (fanW0 level kids) k hlt)
      have hpk := HP.out k
      have HPK := Lib.hid hpk
      have hpk1 := HP.out (k + 1)
      rw [HT.out] at hpk1
      have HPK1 := Lib.hid hpk1
      generalize kids[k] = p at *
      have HIN := Lib.hid hin
      have HII := Lib.hid hii
      generalize (kids.take k).foldl (fun x a => partW a x) (fanW0 level kids) = xk at *
      clear hcell hpk hpk1 hin hii
      go_wp2_with fail
      refine (id_at (H.out.alloc _) p.id HII.out HPK.out).mono ?_
      rintro e w4 ⟨rfl, h4, hk4⟩
      have z1 := (hk4 _ _ _ (Has.new wr [.string p.id, .int .i64 p.size] _) (by have := H.out.ex.choose_spec.has.lt; omega) (by decide)).cell (o := 1) rfl
      have H4 := Lib.hid h4
      clear h4 hk4
      go_wp2_with fail
      refine (int_at H4.out p.size 1 262144 HIN.out ?_).mono ?_
      · have h1 := HPK1.out
        rw [partW_l] at h1
        simp only [partB, W.id, List.length_append] at h1 ⊢
        omega
      rintro e w5 ⟨rfl, h5, _⟩
      have H5 : Hid (At w0 b (partW p xk) w5) := Lib.hid h5
      clear h5
      go_wp2_with fail
      go_roundw
      case rel => exact ⟨k + 1, by go_num, by omega, Lib.hid (by rw [HT.out]; exact H5.out)⟩
      case measure => simp [intOf]; omega
    · have hkl : k = kids.length := by omega
      have i1 : ¬ (k : Int) < (kids.length : Int) := by omega
      have h6 := H.out
      rw [hkl, List.take_length] at h6
      have x1 := (HX.out.keep h6.mod (fun h => h)).cell (o := 1) rfl
      have H6 := Lib.hid h6
      clear h6 H hkl
      go_wp2_with fail
      refine (sumP_at H6.out A c kids 262144 (HA0.out.keep H6.out.mod (fun _ _ h => h)) hc (by omega) HS.out).mono ?_
      rintro e w7 ⟨rfl, h7, _⟩
      have h7 : At w0 b (fanW level kids) w7 := h7
      have hO := object_at h7 (HK.out.keep (Mod.trans HM0.out h7.mod (fun _ _ h => h)) (fun h => h)) (fun hb => by rw [fanW_bad] at hb; rw [fanW_l]; exact fan_len level kids HLV.out HS.out (by simpa using hb))
      rw [fanW_l, fanW_bad] at hO
      have H7 := Lib.hid h7.mod
      clear h7
      cases hr : rightFan level kids with
      | true =>
        rw [hr, Bool.not_true] at hO
        have HR' := Lib.hid hr
        have HO := Lib.hid hO
        clear hO hr
        go_wp2_with fail
        refine HO.out.mono ?_
        rintro e w8 ⟨rfl, hm8⟩
        have hm8' := Mod.trans H7.out hm8 (fun _ _ h => h)
        have hr8 := HR.out.keep hm8' (fun h => h)
        have z0 := hr8.cell (o := 0) rfl
        have z1 := hr8.cell (o := 1) rfl
        have k0 := hr8.frozen 0
        have k1 := hr8.frozen 1
        have HM8 := Lib.hid (Mod.trans HM0.out hm8' (fun _ _ h => h))
        rw [putV_f]
        clear hr8 hm8 hm8'
        go_wp2_with fail
        refine bodyPost_ret (v := putV (fanB level kids) false) (by simp [results, Tryd.results44, go_sem, putV_f, z0, z1]) rfl ⟨by rw [HR'.out]; rfl, ?_⟩
        exact (HM8.out.setCell (p := ⟨w.heap.size + 1, 0, none⟩) (.inr (by simp)) _).setCell (p := ⟨w.heap.size + 1, 1, none⟩) (.inr (by simp)) _
      | false =>
        rw [hr, Bool.not_false] at hO
        have HR' := Lib.hid hr
        have HO := Lib.hid hO
        clear hO hr
        go_wp2_with fail
        refine HO.out.mono ?_
        rintro e w8 ⟨rfl, hm8⟩
        have hm8' := Mod.trans H7.out hm8 (fun _ _ h => h)
        have hr8 := HR.out.keep hm8' (fun h => h)
        have z0 := hr8.cell (o := 0) rfl
        have z1 := hr8.cell (o := 1) rfl
        have k0 := hr8.frozen 0
        have k1 := hr8.frozen 1
        have HM8 := Lib.hid (Mod.trans HM0.out hm8' (fun _ _ h => h))
        rw [putV_t]
        clear hr8 hm8 hm8'
        go_wp2_with fail
        refine bodyPost_ret (v := putV (fanB level kids) true) (by simp [results, Tryd.results44, go_sem, putV_t, z0, z1]) rfl ⟨by rw [HR'.out]; rfl, ?_⟩
        exact (HM8.out.setCell (p := ⟨w.heap.size + 1, 0, none⟩) (.inr (by simp)) _).setCell (p := ⟨w.heap.size + 1, 1, none⟩) (.inr (by simp)) _
end Obj
end Go.Proofs.YthgcjfpaekpeeaaDoor
/- The walk of object's Leaf. -/
namespace Go.Proofs.YthgcjfpaekpeeaaDoor
set_option linter.unusedVariables false
set_option linter.unusedSimpArgs false
open Go.RowKit K Wire
namespace Obj

theorem encT_len (s : ByteArray) (h : s.size ≤ 1048576) : (encT s.data.toList).length ≤ 10 + s.size := by
  have e3 := enc_len (s.size : Int) (by unfold In64; omega)
  have e : s.data.toList.length = s.size := by simp
  simp only [encT, List.length_append, e]
  omega
theorem encT_least (s : ByteArray) : s.size ≤ (encT s.data.toList).length := by
  have e : s.data.toList.length = s.size := by simp
  simp only [encT, List.length_append, e]
  omega
theorem leaf_len (kids : List Pair) (h : rightLeaf kids = true) : (leafB kids).length ≤ 1048576 := by
  simp only [rightLeaf, Bool.and_eq_true] at h
  obtain ⟨⟨hn, ha⟩, _⟩ := h
  simp only [inR, Bool.and_eq_true, decide_eq_true_eq] at hn
  have h1 := flatMap_most pairB 212 kids fun p hp => by
    have h2 := List.all_eq_true.1 ha p hp
    simp only [pairOk, inR, Bool.and_eq_true, decide_eq_true_eq] at h2
    have := encT_len p.key (by omega)
    have := encT_len p.val (by omega)
    simp only [pairB, List.length_append]
    omega
  have := enc_len (kids.length : Int) (by unfold In64; omega)
  simp only [leafB, List.length_append, List.length_cons]
  omega
end Obj
end Go.Proofs.YthgcjfpaekpeeaaDoor
/- The walk of object's Branch. -/
namespace Go.Proofs.YthgcjfpaekpeeaaDoor
set_option linter.unusedVariables false
set_option linter.unusedSimpArgs false
open Go.RowKit K Wire
namespace Obj
theorem branch_len (level : Int) (kids : List Link) (hlv : In64 level) (hs : ∀ p ∈ kids, In64 p.many) (h : rightBranch level kids = true) : (branchB level kids).length ≤ 1048576 := by
  simp only [rightBranch, Bool.and_eq_true] at h
  obtain ⟨⟨⟨⟨_, hn⟩, ha⟩, _⟩, _⟩ := h
  simp only [inR, Bool.and_eq_true, decide_eq_true_eq] at hn
  have h1 := flatMap_most linkB 116 kids fun p hp => by
    have h2 := List.all_eq_true.1 ha p hp
    simp only [linkOk, inR, Bool.and_eq_true, decide_eq_true_eq] at h2
    have := encT_len p.last (by omega)
    have := enc_len p.many (hs p hp)
    have e : p.id.data.toList.length = p.id.size := by simp
    simp only [linkB, List.length_append]
    omega
  have := enc_len level hlv
  have := enc_len (kids.length : Int) (by unfold In64; omega)
  simp only [branchB, List.length_append, List.length_cons]
  omega
end Obj
end Go.Proofs.YthgcjfpaekpeeaaDoor
