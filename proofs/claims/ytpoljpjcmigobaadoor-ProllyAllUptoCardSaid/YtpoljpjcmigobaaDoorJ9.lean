/- Joined texts: ObjW, ObjO. -/
import Derived.Test.YtpoljpjcmigobaaDoorJ1
import Derived.Test.YtpoljpjcmigobaaDoorJ4
import Derived.Deep.QuietTactic
import Derived.Test.YtpoljpjcmigobaaDoorJ6
/- The walks of object's writer: begin, ask, int, text, id. -/
namespace Go.Proofs.YtpoljpjcmigobaaDoor
set_option linter.unusedVariables false
set_option linter.unusedSimpArgs false
open Go.RowKit K Wire
namespace Obj
set_option maxRecDepth 100000 in
theorem obj_bytes_t : SliceT Tryd.prog 111 5 1 1 := ⟨Tryd.underlying111, by decide, _, .int .u8 0, rfl, rfl, rfl, rfl, rfl⟩

/-- a writer in block b (of type T; rest: what stands behind it there): what was put, and whether it may not be -/
structure WAt (w : World) (B b T : Nat) (rest : List Value) (l : List UInt8) (bad : Bool) (v : Value) : Prop where
  has : Has w b (v :: .bool bad :: rest) T
  own : w.ownsRow B 5 1 v l.length (bv l)
  base : B ≤ w.heap.size
theorem WAt.keep {w w' : World} {S : Nat → Prop} {B b T : Nat} {rest : List Value} {l : List UInt8} {bad : Bool} {v : Value} (h : WAt w B b T rest l bad v) (m : Mod S w w') (h1 : ¬ S b) (h2 : ∀ k, v.ownBlock = some k → ¬ S k) : WAt w' B b T rest l bad v :=
  ⟨h.has.keep m h1, own_keep h.own m (fun k _ hk => h2 k hk), Nat.le_trans h.base m.size⟩
theorem WAt.ne {w : World} {B b T : Nat} {rest : List Value} {l : List UInt8} {bad : Bool} {v : Value} (h : WAt w B b T rest l bad v) (hT : T ≠ 5) : ∀ k, v.ownBlock = some k → k ≠ b := fun k hk => has_ne h.has (own_row h.own hk) hT
/-- a step of the writer -/
def WOp (B b T : Nat) (rest : List Value) (l : List UInt8) (bad : Bool) (v : Value) (w : World) (e : Ending) (w' : World) : Prop :=
  e = .returned (.tuple #[]) ∧ ∃ v', WAt w' B b T rest l bad v' ∧ Mod (fun k => k = b ∨ v.ownBlock = some k) w w'

def BeginPost (c : UInt8) (w : World) (e : Ending) (w' : World) : Prop :=
  ∃ b v, e = .returned (.pointer (some ⟨b, 0, none⟩)) ∧ WAt w' w.heap.size b 125 [] [c] false v ∧ w.heap.size ≤ b ∧ Mod (fun _ => False) w w'

set_option maxRecDepth 100000 in
theorem begin_calls (c : UInt8) (w : World) : Calls Tryd.prog 48 #[.int .u8 (c.toNat : Int)] w (BeginPost c w) := by
  go_enter Tryd.func48, Tryd.ntmps48
  go_wp2_with fail
  go_ret
  refine ⟨w.heap.size + 1, .slice (some ⟨w.heap.size, 0, none⟩) 1 1, rfl, ⟨Has.lit (by simp), (own_lit rfl (Nat.le_refl _) (by unfold maxLen; simp) rfl).alloc _, by simp; omega⟩, by omega, ?_⟩
  (repeat (first | with_reducible exact Mod.refl _ _ | with_reducible apply Mod.drew | with_reducible apply Mod.drewN | with_reducible apply Mod.alloc | refine Mod.set1 ?_ (by first | exact rfl | simp) _ _))

set_option maxRecDepth 100000 in
theorem ask_calls (b T : Nat) (v : Value) (bad ok : Bool) (rest : List Value) (w : World) (h : Has w b (v :: .bool bad :: rest) T) :
    Calls Tryd.prog 75 #[.pointer (some ⟨b, 0, none⟩), .bool ok] w fun e w' => e = .returned (.tuple #[]) ∧ Has w' b (v :: .bool (bad || !ok) :: rest) T ∧ Mod (fun k => k = b) w w' := by
  have h1 := h.cell (o := 1) rfl
  have f1 := h.frozen 1
  have HH := Lib.hid h
  clear h
  cases bad
  · go_enter Tryd.func75, Tryd.ntmps75
    go_wp2_with fail
    go_end0
    exact ⟨rfl, HH.out.set 1 _, (Mod.refl (fun k => k = b) _).set1 rfl _ _⟩
  · go_enter Tryd.func75, Tryd.ntmps75
    go_wp2_with fail
    go_end0
    exact ⟨rfl, HH.out.set 1 _, (Mod.refl (fun k => k = b) _).set1 rfl _ _⟩

theorem cells_none {w : World} {A : Option Addr} {l : List UInt8} (h : Cells w A (bv l)) : A = none → l = [] := cells_nil h
/-- a new slice of bytes is laid into the writer -/
theorem wop_done {B b T : Nat} {rest : List Value} {l l' : List UInt8} {bad bad' : Bool} {v v2 : Value} {w w1 w2 : World} (h : WAt w B b T rest l bad v) (hT : T ≠ 5)
    (h1 : Has w1 b (v :: .bool bad' :: rest) T) (hm1 : Mod (fun k => k = b) w w1) (ho : w2.ownsRow B 5 1 v2 l'.length (bv l')) (hm2 : Mod (fun k => v.ownBlock = some k) w1 w2) :
    WOp B b T rest l' bad' v w (.returned (.tuple #[])) (w2.setCell ⟨b, 0, none⟩ v2) := by
  have hne := h.ne hT
  have h2 := h1.keep hm2 (fun hk => hne _ hk rfl)
  have hmS : Mod (fun k => k = b) w2 (w2.setCell ⟨b, 0, none⟩ v2) := (Mod.refl (fun k => k = b) _).set1 rfl _ _
  have hm : Mod (fun k => k = b ∨ v.ownBlock = some k) w (w2.setCell ⟨b, 0, none⟩ v2) :=
    Mod.trans (Mod.trans (hm1.mono fun _ _ h => .inl h) hm2 (fun _ _ h => .inr h)) hmS (fun _ _ h => .inl h)
  exact ⟨rfl, v2, ⟨h2.set 0 v2, own_keep ho hmS (fun k _ hk hkb => has_ne h2 (own_row ho hk) hT hkb), Nat.le_trans h.base hm.size⟩, hm⟩

def inR (n lo hi : Int) : Bool := decide (lo ≤ n) && decide (n ≤ hi)

set_option maxRecDepth 100000 in
set_option maxHeartbeats 1000000 in
theorem int_calls (B b T : Nat) (rest : List Value) (l : List UInt8) (bad : Bool) (v : Value) (n lo hi : Int) (w : World) (h : WAt w B b T rest l bad v) (hT : T ≠ 5) (hn : In64 n) (hl : l.length ≤ 100000000) :
    Calls Tryd.prog 49 #[.pointer (some ⟨b, 0, none⟩), .int .i64 n, .int .i64 lo, .int .i64 hi] w (WOp B b T rest (l ++ enc n) (bad || !inR n lo hi) v w) := by
  have HA := Lib.hid (fun ok => ask_calls b T v bad ok rest w h.has)
  have HW := Lib.hid h
  obtain ⟨A, c, rfl, hc, hcl, hadr, hcm⟩ := own_cells h.own
  have HC := Lib.hid hcl
  clear h hcl
  by_cases h1 : lo ≤ n
  · by_cases h2 : n ≤ hi
    · have hin : inR n lo hi = true := by simp [inR, h1, h2]
      rw [hin]
      clear hin
      go_enter Tryd.func49, Tryd.ntmps49
      go_wp2_with fail
      refine (HA.out _).mono ?_
      rintro e w1 ⟨rfl, hh1, hm1⟩
      have hcl1 := HC.out.keep hm1 (fun a ha hk => HW.out.ne hT a.block (by rw [ha]; rfl) hk)
      have hp := putInt_calls A c l n w1 hcl1 (by omega) (cells_nil hcl1) hn
      have x0 := hh1.cell (o := 0) rfl
      have y0 := hh1.frozen 0
      have HP := Lib.hid hp
      have HH := Lib.hid hh1
      have HM := Lib.hid hm1
      clear hh1 hm1 hcl1 hp HA
      go_wp2_with fail
      refine HP.out.mono ?_
      rintro e w2 ⟨v2, rfl, ho, hm2⟩
      rw [List.length_append] at ho
      obtain ⟨A2, c2, rfl, _, _, _, _⟩ := own_cells ho
      have hh2 := HH.out.keep hm2 (fun h => h)
      have x2 := hh2.cell (o := 0) rfl
      have y2 := hh2.frozen 0
      have HO := Lib.hid ho
      have HM2 := Lib.hid hm2
      clear ho hm2 hh2
      go_wp2_with fail
      go_end0
      exact wop_done HW.out hT HH.out HM.out (by rw [List.length_append]; exact own_base HO.out (Nat.le_trans HW.out.base HM.out.size)) (HM2.out.mono fun _ _ h => h.elim)
    · have hin : inR n lo hi = false := by simp [inR, h2]
      rw [hin]
      clear hin
      go_enter Tryd.func49, Tryd.ntmps49
      go_wp2_with fail
      refine (HA.out _).mono ?_
      rintro e w1 ⟨rfl, hh1, hm1⟩
      have hcl1 := HC.out.keep hm1 (fun a ha hk => HW.out.ne hT a.block (by rw [ha]; rfl) hk)
      have hp := putInt_calls A c l n w1 hcl1 (by omega) (cells_nil hcl1) hn
      have x0 := hh1.cell (o := 0) rfl
      have y0 := hh1.frozen 0
      have HP := Lib.hid hp
      have HH := Lib.hid hh1
      have HM := Lib.hid hm1
      clear hh1 hm1 hcl1 hp HA
      go_wp2_with fail
      refine HP.out.mono ?_
      rintro e w2 ⟨v2, rfl, ho, hm2⟩
      rw [List.length_append] at ho
      obtain ⟨A2, c2, rfl, _, _, _, _⟩ := own_cells ho
      have hh2 := HH.out.keep hm2 (fun h => h)
      have x2 := hh2.cell (o := 0) rfl
      have y2 := hh2.frozen 0
      have HO := Lib.hid ho
      have HM2 := Lib.hid hm2
      clear ho hm2 hh2
      go_wp2_with fail
      go_end0
      exact wop_done HW.out hT HH.out HM.out (by rw [List.length_append]; exact own_base HO.out (Nat.le_trans HW.out.base HM.out.size)) (HM2.out.mono fun _ _ h => h.elim)
  · have hin : inR n lo hi = false := by simp [inR, h1]
    rw [hin]
    clear hin
    go_enter Tryd.func49, Tryd.ntmps49
    go_wp2_with fail
    refine (HA.out _).mono ?_
    rintro e w1 ⟨rfl, hh1, hm1⟩
    have hcl1 := HC.out.keep hm1 (fun a ha hk => HW.out.ne hT a.block (by rw [ha]; rfl) hk)
    have hp := putInt_calls A c l n w1 hcl1 (by omega) (cells_nil hcl1) hn
    have x0 := hh1.cell (o := 0) rfl
    have y0 := hh1.frozen 0
    have HP := Lib.hid hp
    have HH := Lib.hid hh1
    have HM := Lib.hid hm1
    clear hh1 hm1 hcl1 hp HA
    go_wp2_with fail
    refine HP.out.mono ?_
    rintro e w2 ⟨v2, rfl, ho, hm2⟩
    rw [List.length_append] at ho
    obtain ⟨A2, c2, rfl, _, _, _, _⟩ := own_cells ho
    have hh2 := HH.out.keep hm2 (fun h => h)
    have x2 := hh2.cell (o := 0) rfl
    have y2 := hh2.frozen 0
    have HO := Lib.hid ho
    have HM2 := Lib.hid hm2
    clear ho hm2 hh2
    go_wp2_with fail
    go_end0
    exact wop_done HW.out hT HH.out HM.out (by rw [List.length_append]; exact own_base HO.out (Nat.le_trans HW.out.base HM.out.size)) (HM2.out.mono fun _ _ h => h.elim)

def inL (l : List UInt8) (lo hi : Int) : Bool := inR (l.length : Int) lo hi
set_option maxRecDepth 100000 in
set_option maxHeartbeats 1000000 in
theorem text_calls (B b T : Nat) (rest : List Value) (l : List UInt8) (bad : Bool) (v : Value) (s : ByteArray) (lo hi : Int) (w : World) (h : WAt w B b T rest l bad v) (hT : T ≠ 5) (hs : s.size ≤ 100000000) (hl : l.length ≤ 100000000) :
    Calls Tryd.prog 50 #[.pointer (some ⟨b, 0, none⟩), .string s, .int .i64 lo, .int .i64 hi] w (WOp B b T rest (l ++ encT s.data.toList) (bad || !inR (s.size : Int) lo hi) v w) := by
  have HA := Lib.hid (fun ok => ask_calls b T v bad ok rest w h.has)
  have HW := Lib.hid h
  obtain ⟨A, c, rfl, hc, hcl, hadr, hcm⟩ := own_cells h.own
  have HC := Lib.hid hcl
  clear h hcl
  by_cases h1 : lo ≤ (s.size : Int)
  · by_cases h2 : (s.size : Int) ≤ hi
    · have hin : inR (s.size : Int) lo hi = true := by simp [inR, h1, h2]
      rw [hin]
      clear hin
      go_enter Tryd.func50, Tryd.ntmps50
      go_wp2_with fail
      refine (HA.out _).mono ?_
      rintro e w1 ⟨rfl, hh1, hm1⟩
      have hcl1 := HC.out.keep hm1 (fun a ha hk => HW.out.ne hT a.block (by rw [ha]; rfl) hk)
      have hp := putText_calls A c l s w1 hcl1 (by omega) (cells_nil hcl1)
      have x0 := hh1.cell (o := 0) rfl
      have y0 := hh1.frozen 0
      have HP := Lib.hid hp
      have HH := Lib.hid hh1
      have HM := Lib.hid hm1
      clear hh1 hm1 hcl1 hp HA
      go_wp2_with fail
      refine HP.out.mono ?_
      rintro e w2 ⟨v2, rfl, ho, hm2⟩
      rw [List.length_append] at ho
      obtain ⟨A2, c2, rfl, _, _, _, _⟩ := own_cells ho
      have hh2 := HH.out.keep hm2 (fun h => h)
      have x2 := hh2.cell (o := 0) rfl
      have y2 := hh2.frozen 0
      have HO := Lib.hid ho
      have HM2 := Lib.hid hm2
      clear ho hm2 hh2
      go_wp2_with fail
      go_end0
      exact wop_done HW.out hT HH.out HM.out (by rw [List.length_append]; exact own_base HO.out (Nat.le_trans HW.out.base HM.out.size)) (HM2.out.mono fun _ _ h => h.elim)
    · have hin : inR (s.size : Int) lo hi = false := by simp [inR, h2]
      rw [hin]
      clear hin
      go_enter Tryd.func50, Tryd.ntmps50
      go_wp2_with fail
      refine (HA.out _).mono ?_
      rintro e w1 ⟨rfl, hh1, hm1⟩
      have hcl1 := HC.out.keep hm1 (fun a ha hk => HW.out.ne hT a.block (by rw [ha]; rfl) hk)
      have hp := putText_calls A c l s w1 hcl1 (by omega) (cells_nil hcl1)
      have x0 := hh1.cell (o := 0) rfl
      have y0 := hh1.frozen 0
      have HP := Lib.hid hp
      have HH := Lib.hid hh1
      have HM := Lib.hid hm1
      clear hh1 hm1 hcl1 hp HA
      go_wp2_with fail
      refine HP.out.mono ?_
      rintro e w2 ⟨v2, rfl, ho, hm2⟩
      rw [List.length_append] at ho
      obtain ⟨A2, c2, rfl, _, _, _, _⟩ := own_cells ho
      have hh2 := HH.out.keep hm2 (fun h => h)
      have x2 := hh2.cell (o := 0) rfl
      have y2 := hh2.frozen 0
      have HO := Lib.hid ho
      have HM2 := Lib.hid hm2
      clear ho hm2 hh2
      go_wp2_with fail
      go_end0
      exact wop_done HW.out hT HH.out HM.out (by rw [List.length_append]; exact own_base HO.out (Nat.le_trans HW.out.base HM.out.size)) (HM2.out.mono fun _ _ h => h.elim)
  · have hin : inR (s.size : Int) lo hi = false := by simp [inR, h1]
    rw [hin]
    clear hin
    go_enter Tryd.func50, Tryd.ntmps50
    go_wp2_with fail
    refine (HA.out _).mono ?_
    rintro e w1 ⟨rfl, hh1, hm1⟩
    have hcl1 := HC.out.keep hm1 (fun a ha hk => HW.out.ne hT a.block (by rw [ha]; rfl) hk)
    have hp := putText_calls A c l s w1 hcl1 (by omega) (cells_nil hcl1)
    have x0 := hh1.cell (o := 0) rfl
    have y0 := hh1.frozen 0
    have HP := Lib.hid hp
    have HH := Lib.hid hh1
    have HM := Lib.hid hm1
    clear hh1 hm1 hcl1 hp HA
    go_wp2_with fail
    refine HP.out.mono ?_
    rintro e w2 ⟨v2, rfl, ho, hm2⟩
    rw [List.length_append] at ho
    obtain ⟨A2, c2, rfl, _, _, _, _⟩ := own_cells ho
    have hh2 := HH.out.keep hm2 (fun h => h)
    have x2 := hh2.cell (o := 0) rfl
    have y2 := hh2.frozen 0
    have HO := Lib.hid ho
    have HM2 := Lib.hid hm2
    clear ho hm2 hh2
    go_wp2_with fail
    go_end0
    exact wop_done HW.out hT HH.out HM.out (by rw [List.length_append]; exact own_base HO.out (Nat.le_trans HW.out.base HM.out.size)) (HM2.out.mono fun _ _ h => h.elim)

set_option maxRecDepth 100000 in
set_option maxHeartbeats 1000000 in
theorem id_calls (B b T : Nat) (rest : List Value) (l : List UInt8) (bad : Bool) (v : Value) (s : ByteArray) (w : World) (h : WAt w B b T rest l bad v) (hT : T ≠ 5) (hs : s.size ≤ 100000000) (hl : l.length ≤ 100000000) :
    Calls Tryd.prog 55 #[.pointer (some ⟨b, 0, none⟩), .string s] w (WOp B b T rest (l ++ s.data.toList) (bad || !decide (s.size = 32)) v w) := by
  have HA := Lib.hid (fun ok => ask_calls b T v bad ok rest w h.has)
  have HW := Lib.hid h
  have hown := h.own
  have hbs := h.base
  have hne := h.ne hT
  have HN := Lib.hid hne
  have hslen : s.data.toList.length = s.size := by simp
  clear h hne
  by_cases h1 : s.size = 32
  · have hi : (s.size : Int) = 32 := by omega
    rw [show decide (s.size = 32) = true by simpa using h1]
    have H1 := Lib.hid h1
    have q : ((s.size : Int) == 32) = true := by simpa using hi
    clear h1 hi
    go_enter Tryd.func55, Tryd.ntmps55
    go_wp2_with fail
    refine (HA.out _).mono ?_
    rintro e w1 ⟨rfl, hh1, hm1⟩
    have x0 := hh1.cell (o := 0) rfl
    have HO1 := Lib.hid (own_keep hown hm1 (fun k _ hk hkb => HN.out k hk hkb))
    have HH := Lib.hid hh1
    have HM := Lib.hid hm1
    have hz1 := hm1.size
    clear hh1 hm1 HA
    go_wp2_with (first
      | (at_builtin
         go_must (refine app_str (.tmp 13) (.tmp 14) obj_bytes_t (fun i z hi hz => by cases hi; cases hz; rfl) Tryd.underlying9 B v l.length (bv l) HO1.out s rfl rfl rfl rfl (by unfold maxLen; omega) (by omega) (by omega) ?_; intro v2 w2 ho hm2)
         rw [← bv_append] at ho
         obtain ⟨A2, c2, rfl, _, _, _, _⟩ := own_cells ho
         have hh2 := HH.out.keep hm2 (fun h => HN.out _ h.2 rfl)
         have x2 := hh2.cell (o := 0) rfl
         have y2 := hh2.frozen 0
         have HO := Lib.hid ho
         have HM2 := Lib.hid hm2
         clear ho hm2 hh2))
    go_end0
    exact wop_done HW.out hT HH.out HM.out (by rw [List.length_append, hslen]; exact HO.out) (HM2.out.mono fun _ _ h => h.2)
  · have hi : ¬ (s.size : Int) = 32 := by omega
    rw [show decide (s.size = 32) = false by simpa using h1]
    have q : ((s.size : Int) == 32) = false := by simpa using hi
    clear h1 hi
    go_enter Tryd.func55, Tryd.ntmps55
    go_wp2_with fail
    refine (HA.out _).mono ?_
    rintro e w1 ⟨rfl, hh1, hm1⟩
    have x0 := hh1.cell (o := 0) rfl
    have HO1 := Lib.hid (own_keep hown hm1 (fun k _ hk hkb => HN.out k hk hkb))
    have HH := Lib.hid hh1
    have HM := Lib.hid hm1
    have hz1 := hm1.size
    clear hh1 hm1 HA
    go_wp2_with (first
      | (at_builtin
         go_must (refine app_str (.tmp 13) (.tmp 14) obj_bytes_t (fun i z hi hz => by cases hi; cases hz; rfl) Tryd.underlying9 B v l.length (bv l) HO1.out s rfl rfl rfl rfl (by unfold maxLen; omega) (by omega) (by omega) ?_; intro v2 w2 ho hm2)
         rw [← bv_append] at ho
         obtain ⟨A2, c2, rfl, _, _, _, _⟩ := own_cells ho
         have hh2 := HH.out.keep hm2 (fun h => HN.out _ h.2 rfl)
         have x2 := hh2.cell (o := 0) rfl
         have y2 := hh2.frozen 0
         have HO := Lib.hid ho
         have HM2 := Lib.hid hm2
         clear ho hm2 hh2))
    go_end0
    exact wop_done HW.out hT HH.out HM.out (by rw [List.length_append, hslen]; exact HO.out) (HM2.out.mono fun _ _ h => h.2)

end Obj
end Go.Proofs.YtpoljpjcmigobaaDoor
/- The walks of object's Of, object, Chunk, TakeChunk. -/
namespace Go.Proofs.YtpoljpjcmigobaaDoor
set_option linter.unusedVariables false
set_option linter.unusedSimpArgs false
open Go.RowKit K Wire
namespace Obj

/-- an object's value -/
def objV (l : List UInt8) : Value := .agg #[.string ⟨(Hash.sha l).toArray⟩, .string ⟨l.toArray⟩]
/-- an object, or an error -/
def putV (l : List UInt8) (bad : Bool) : Value := if bad then .tuple #[.agg #[.string ⟨#[]⟩, .string ⟨#[]⟩], .int .i64 80] else .tuple #[objV l, .int .i64 0]

set_option maxRecDepth 100000 in
set_option maxHeartbeats 1000000 in
theorem of_calls (A : Option Addr) (c : Nat) (ps : List ByteArray) (w : World) (hK : Hash.Keys w) (hA : Cells w A (ps.map .string)) (hc : ps.length ≤ c) (hn : ps.length ≤ 1048576) (hl : (Hash.flat ps).length ≤ 1048576) :
    Calls Tryd.prog 78 #[.slice A ps.length c] w fun e w' => e = .returned (objV (Hash.flat ps)) ∧ Mod (fun _ => False) w w' := by
  have HS := Lib.hid (Hash.sum_calls A c ps (w.alloc (.cells #[.string ByteArray.empty, .string ByteArray.empty] 59)) (hK.keep (Mod.alloc (Mod.refl (fun _ => False) _) _) (fun h => h)) (hA.alloc _) hc hn hl)
  have HA := Lib.hid hA
  have hJ0 := fun w1 h => Hash.join_calls A c ps w1 h hc hn hl
  obtain ⟨L, hL⟩ : ∃ L, Hash.flat ps = L := ⟨_, rfl⟩
  rw [hL] at HS hJ0 ⊢
  have HJ0 := Lib.hid hJ0
  clear hK hA hL hl hJ0
  go_enter Tryd.func78, Tryd.ntmps78
  go_wp2_with fail
  refine HS.out.mono ?_
  rintro e w1 ⟨rfl, hm1⟩
  have hO := (Has.new w [.string ByteArray.empty, .string ByteArray.empty] 59).keep hm1 (fun h => h)
  have hJ := HJ0.out w1 ((HA.out.alloc _).keep hm1 (fun _ _ h => h))
  have hm1' : Mod (fun _ => False) w w1 := Mod.trans (Mod.alloc (Mod.refl _ _) _) hm1 (fun _ _ h => h)
  have HJ := Lib.hid hJ
  have HO := Lib.hid hO
  have HM := Lib.hid hm1'
  clear hJ hO hm1 hm1' HS
  go_wp2_with fail
  refine HJ.out.mono ?_
  rintro e w2 ⟨rfl, hm2⟩
  have hO2 := HO.out.keep hm2 (fun h => h)
  have x0 := hO2.cell (o := 0) rfl
  have x1 := hO2.cell (o := 1) rfl
  have y0 := hO2.frozen 0
  have y1 := hO2.frozen 1
  have HM2 := Lib.hid (Mod.trans HM.out hm2 (fun _ _ h => h))
  clear hO2 hm2 HO HM HJ
  go_wp2_with fail
  refine bodyPost_ret (v := objV L) (by simp [results, Tryd.results78, go_sem, objV, x0, x1]) rfl ⟨rfl, ?_⟩
  exact (HM2.out.setCell (p := ⟨w.heap.size, 0, none⟩) (.inr (Nat.le_refl _)) _).setCell (p := ⟨w.heap.size, 1, none⟩) (.inr (Nat.le_refl _)) _

theorem flat_one (l : List UInt8) : Hash.flat [⟨l.toArray⟩] = l := by simp [Hash.flat]

set_option maxRecDepth 100000 in
set_option maxHeartbeats 1000000 in
theorem object_calls (B b T : Nat) (rest : List Value) (l : List UInt8) (bad : Bool) (v : Value) (w : World) (h : WAt w B b T rest l bad v) (hT : T ≠ 5) (hK : Hash.Keys w) (hl : bad = false → l.length ≤ 1048576) :
    Calls Tryd.prog 53 #[.pointer (some ⟨b, 0, none⟩)] w fun e w' => e = .returned (putV l bad) ∧ Mod (fun _ => False) w w' := by
  have x0 := h.has.cell (o := 0) rfl
  have x1 := h.has.cell (o := 1) rfl
  have hlt := h.has.lt
  cases bad with
  | true =>
    clear h hl hK
    go_enter Tryd.func53, Tryd.ntmps53
    go_wp2_with fail
    refine bodyPost_ret (v := putV l true) (by simp [results, Tryd.results53, go_sem, putV]) rfl ⟨rfl, ?_⟩
    (repeat (first | with_reducible exact Mod.refl _ _ | with_reducible apply Mod.drew | with_reducible apply Mod.drewN | with_reducible apply Mod.alloc | refine Mod.set1 ?_ (by first | exact rfl | simp) _ _))
  | false =>
    have hl := hl rfl
    obtain ⟨A, c, rfl, hc, hcl, hadr, hcm⟩ := own_cells h.own
    have hcv := fun (w' : World) (hx : Cells w' A (bv l)) => run_bytes (P := Tryd.prog) c hx 111 9 5 Tryd.underlying111 Tryd.underlying5 Tryd.underlying9
    have hcv1 := hcv (w.alloc (.cells #[.string ⟨#[]⟩, .string ⟨#[]⟩] 59)) (hcl.alloc _)
    have hO := of_calls (some ⟨w.heap.size + 1, 0, none⟩) 1 [⟨l.toArray⟩] ((w.alloc (.cells #[.string ⟨#[]⟩, .string ⟨#[]⟩] 59)).alloc (.cells #[.string ⟨l.toArray⟩] 9))
      (hK.keep ((Mod.refl (fun _ => False) _).alloc _ |>.alloc _) (fun h => h)) (cells_lit (by simp)) (Nat.le_refl _) (by simp) (by rw [flat_one]; exact hl)
    rw [flat_one] at hO
    have HO := Lib.hid hO
    clear h hK hcl hcv hO hl
    go_enter Tryd.func53, Tryd.ntmps53
    go_wp2_with fail
    refine HO.out.mono ?_
    rintro e w1 ⟨rfl, hm1⟩
    have hO2 := ((Has.new w [.string ⟨#[]⟩, .string ⟨#[]⟩] 59).alloc (.cells #[.string ⟨l.toArray⟩] 9)).keep hm1 (fun h => h)
    have z0 := hO2.cell (o := 0) rfl
    have z1 := hO2.cell (o := 1) rfl
    have y0 := hO2.frozen 0
    have y1 := hO2.frozen 1
    have HM := Lib.hid (Mod.trans (((Mod.refl (fun _ => False) w).alloc _).alloc _) hm1 (fun _ _ h => h))
    unfold objV
    clear hO2 hm1 HO
    go_wp2_with fail
    refine bodyPost_ret (v := putV l false) (by simp [results, Tryd.results53, go_sem, putV, objV, z0, z1]) rfl ⟨rfl, ?_⟩
    exact (HM.out.setCell (p := ⟨w.heap.size, 0, none⟩) (.inr (Nat.le_refl _)) _).setCell (p := ⟨w.heap.size, 1, none⟩) (.inr (Nat.le_refl _)) _

theorem putV_t (l : List UInt8) : putV l true = .tuple #[.agg #[.string ⟨#[]⟩, .string ⟨#[]⟩], .int .i64 80] := rfl
theorem putV_f (l : List UInt8) : putV l false = .tuple #[.agg #[.string ⟨(Hash.sha l).toArray⟩, .string ⟨l.toArray⟩], .int .i64 0] := rfl

/-- a chunk -/
def chunkB (l : List UInt8) : List UInt8 := 67 :: l
end Obj
end Go.Proofs.YtpoljpjcmigobaaDoor
