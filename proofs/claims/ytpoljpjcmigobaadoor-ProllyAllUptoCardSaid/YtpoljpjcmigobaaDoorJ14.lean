/- Joined texts: ObjG, ObjH. -/
import Derived.Test.YtpoljpjcmigobaaDoorJ13
import Derived.Test.YtpoljpjcmigobaaDoorJ8
/- The walks of TakeChunk, and of the reference's small functions. -/
namespace Go.Proofs.YtpoljpjcmigobaaDoor
set_option linter.unusedVariables false
set_option linter.unusedSimpArgs false
open Go.RowKit K Wire
namespace Obj

def ChunkP (s : ByteArray) : Prop := ∃ h : 0 < s.size, (s[0]'h).toNat = 67 ∧ s.size ≤ 1025
open Classical in
/-- what TakeChunk answers -/
noncomputable def okChunk (s : ByteArray) : Bool := decide (ChunkP s)
noncomputable def chunkT (s : ByteArray) : Value := .tuple #[.string (if okChunk s then s.extract 1 s.size else ⟨#[]⟩), errV (okChunk s)]
theorem chunkT_no {s : ByteArray} (h : ¬ ChunkP s) : chunkT s = .tuple #[.string ⟨#[]⟩, .int .i64 81] := by
  have : okChunk s = false := by simp [okChunk, h]
  unfold chunkT; rw [this]; rfl
theorem chunkT_yes {s : ByteArray} (h : ChunkP s) : chunkT s = .tuple #[.string (s.extract 1 s.size), .int .i64 0] := by
  have : okChunk s = true := by simp [okChunk, h]
  unfold chunkT; rw [this]; rfl

set_option maxRecDepth 100000 in
theorem number_calls (n : Int) (w : World) (hn : In64 n) : Calls Tryd.prog 61 #[.int .i64 n] w (BytesPost (enc n) w) := by
  have HP := Lib.hid (refInt_calls n w hn)
  go_enter Tryd.func61, Tryd.ntmps61
  go_wp2_with fail
  refine HP.out.mono ?_
  rintro e w1 ⟨v, rfl, ho, hm⟩
  go_wp2_with fail
  go_ret
  exact ⟨v, rfl, ho, hm⟩
set_option maxRecDepth 100000 in
theorem rtext_calls (s : ByteArray) (w : World) (hs : s.size ≤ 100000000) : Calls Tryd.prog 62 #[.string s] w (BytesPost (encT s.data.toList) w) := by
  have HP := Lib.hid (refText_calls s w (by omega))
  go_enter Tryd.func62, Tryd.ntmps62
  go_wp2_with fail
  refine HP.out.mono ?_
  rintro e w1 ⟨v, rfl, ho, hm⟩
  go_wp2_with fail
  go_ret
  exact ⟨v, rfl, ho, hm⟩
set_option maxRecDepth 100000 in
theorem isId_calls (s : ByteArray) (w : World) : Calls Tryd.prog 106 #[.string s] w fun e w' => e = .returned (.bool (decide (s.size = 32))) ∧ Mod (fun _ => False) w w' := by
  go_enter Tryd.func106, Tryd.ntmps106
  go_wp2_with fail
  go_ret
  refine ⟨?_, by (repeat (first | with_reducible exact Mod.refl _ _ | with_reducible apply Mod.drew | with_reducible apply Mod.drewN | with_reducible apply Mod.alloc | refine Mod.set1 ?_ (by first | exact rfl | simp) _ _))⟩
  congr 2
  by_cases h : s.size = 32
  · simp [h]
  · simp [h]; omega
set_option maxRecDepth 100000 in
theorem isKey_calls (s : ByteArray) (w : World) : Calls Tryd.prog 80 #[.string s] w fun e w' => e = .returned (.bool (inR (s.size : Int) 1 64)) ∧ Mod (fun _ => False) w w' := by
  by_cases h1 : 1 ≤ (s.size : Int)
  · go_enter Tryd.func80, Tryd.ntmps80
    go_wp2_with fail
    go_ret
    refine ⟨?_, by (repeat (first | with_reducible exact Mod.refl _ _ | with_reducible apply Mod.drew | with_reducible apply Mod.drewN | with_reducible apply Mod.alloc | refine Mod.set1 ?_ (by first | exact rfl | simp) _ _))⟩
    simp [inR, h1]
  · have hk : inR (s.size : Int) 1 64 = false := by simp [inR, h1]
    rw [hk]
    go_enter Tryd.func80, Tryd.ntmps80
    go_wp2_with fail
    go_ret
    exact ⟨rfl, by (repeat (first | with_reducible exact Mod.refl _ _ | with_reducible apply Mod.drew | with_reducible apply Mod.drewN | with_reducible apply Mod.alloc | refine Mod.set1 ?_ (by first | exact rfl | simp) _ _))⟩
end Obj
end Go.Proofs.YtpoljpjcmigobaaDoor
/- The walks of the reference's reader. -/
namespace Go.Proofs.YtpoljpjcmigobaaDoor
set_option linter.unusedVariables false
set_option linter.unusedSimpArgs false
open Go.RowKit K Wire
namespace Obj

structure RR where
  bad : Bool
  p : Int
def gInt (L : List UInt8) (x : RR) : Int × RR := if x.bad then (0, x) else ((takeI L x.p).1, ⟨!(takeI L x.p).2.2, (takeI L x.p).2.1⟩)
def gText (L : List UInt8) (most : Int) (x : RR) : List UInt8 × RR := if x.bad then ([], x) else ((takeT L x.p most).1, ⟨!(takeT L x.p most).2.2, (takeT L x.p most).2.1⟩)
def gId (L : List UInt8) (x : RR) : List UInt8 × RR := if x.bad = true ∨ (L.length : Int) - x.p < 32 then ([], ⟨true, x.p⟩) else ((L.drop x.p.toNat).take 32, ⟨false, x.p + 32⟩)
def gCount (L : List UInt8) (most : Int) (x : RR) : Int × RR := if (gInt L x).1 < 0 ∨ most < (gInt L x).1 then (0, ⟨true, (gInt L x).2.p⟩) else gInt L x
def gEnds (L : List UInt8) (x : RR) : Bool := !x.bad && decide (x.p = L.length)

/-- the reference's reader in memory -/
structure RgAt (w : World) (b : Nat) (L : List UInt8) (A : Option Addr) (c : Nat) (x : RR) : Prop where
  has : Has w b [.slice A L.length c, .int .i64 x.p, .bool x.bad] 145
  cells : Cells w A (bv L)
  adr : Adr A c
  cap : L.length ≤ c
  max : c ≤ maxLen
  apart : ∀ a, A = some a → a.block ≠ b
  here : 0 ≤ x.p ∧ x.p ≤ L.length + 1
structure Rg (w0 : World) (b : Nat) (L : List UInt8) (x : RR) (w : World) : Prop where
  ex : ∃ A c, RgAt w b L A c x
  base : w0.heap.size ≤ b
  mod : Mod (fun _ => False) w0 w
  rows : ∀ A c, RgAt w b L A c x → ∀ a, A = some a → ByteRow w a.block ∧ w0.heap.size ≤ a.block
def RgPost (w0 : World) (b : Nat) (L : List UInt8) (x : RR) (u : Value) (w : World) (e : Ending) (w' : World) : Prop := e = .returned u ∧ Rg w0 b L x w' ∧ Mod (fun k => k = b) w w'

theorem RgAt.uni {w : World} {b c c' : Nat} {L : List UInt8} {A A' : Option Addr} {x x' : RR} (h : RgAt w b L A c x) (h' : RgAt w b L A' c' x') : A = A' ∧ c = c' := by
  have h1 := h.has
  have h2 := h'.has
  unfold Has at h1 h2
  rw [h1] at h2
  simp at h2
  exact ⟨h2.1.1, h2.1.2⟩
theorem Rg.mk' {w0 w : World} {b c : Nat} {L : List UInt8} {A : Option Addr} {x : RR} (h : RgAt w b L A c x) (hb : w0.heap.size ≤ b) (hm : Mod (fun _ => False) w0 w) (hr : ∀ a, A = some a → ByteRow w a.block ∧ w0.heap.size ≤ a.block) : Rg w0 b L x w :=
  ⟨⟨A, c, h⟩, hb, hm, fun A' c' h' a ha => hr a (by rw [(h.uni h').1]; exact ha)⟩
/-- a step that turned the reader's own cells -/
theorem RgAt.next {w w' : World} {b c : Nat} {L : List UInt8} {A : Option Addr} {x x' : RR} (h : RgAt w b L A c x) (hh : Has w' b [.slice A L.length c, .int .i64 x'.p, .bool x'.bad] 145) (hm : Mod (fun k => k = b) w w') (hp : 0 ≤ x'.p ∧ x'.p ≤ L.length + 1) : RgAt w' b L A c x' :=
  ⟨hh, h.cells.keep hm h.apart, h.adr, h.cap, h.max, h.apart, hp⟩
theorem byteRow_keep {S : Nat → Prop} {w w' : World} {k : Nat} (h : ByteRow w k) (m : Mod S w w') (hs : ¬ S k) : ByteRow w' k := by
  obtain ⟨cur, fz, hr⟩ := h
  exact ⟨cur, fz, (m.block _ (Array.getElem?_eq_some_iff.1 hr).1 hs).trans hr⟩
theorem Rg.step {w0 w w' : World} {b c : Nat} {L : List UInt8} {A : Option Addr} {x x' : RR} {u : Value} (h : Rg w0 b L x w) (hA : RgAt w b L A c x) (hh : Has w' b [.slice A L.length c, .int .i64 x'.p, .bool x'.bad] 145) (hm : Mod (fun k => k = b) w w') (hp : 0 ≤ x'.p ∧ x'.p ≤ L.length + 1) : RgPost w0 b L x' u w (.returned u) w' :=
  ⟨rfl, Rg.mk' (hA.next hh hm hp) h.base (Mod.trans h.mod hm fun i hi hs => by have := h.base; omega) (fun a ha => ⟨byteRow_keep (h.rows A c hA a ha).1 hm (hA.apart a ha), (h.rows A c hA a ha).2⟩), hm⟩
theorem Rg.keep {w0 : World} {b : Nat} {L : List UInt8} {x : RR} {w w' : World} {S : Nat → Prop} (h : Rg w0 b L x w) (m : Mod S w w') (h1 : ¬ S b) (h2 : ∀ k, ByteRow w k → ¬ S k) (h3 : ∀ k, k < w0.heap.size → ¬ S k) : Rg w0 b L x w' := by
  obtain ⟨A, c, hA⟩ := h.ex
  exact Rg.mk' ⟨hA.has.keep m h1, hA.cells.keep m (fun a ha => h2 _ (h.rows A c hA a ha).1), hA.adr, hA.cap, hA.max, hA.apart, hA.here⟩ h.base (Mod.trans h.mod m fun i hi hs => h3 i hi hs) (fun a ha => ⟨byteRow_keep (h.rows A c hA a ha).1 m (h2 _ (h.rows A c hA a ha).1), (h.rows A c hA a ha).2⟩)
theorem Rg.newer {w0 : World} {b : Nat} {L : List UInt8} {x : RR} {w w' : World} (h : Rg w0 b L x w) (m : Mod (fun _ => False) w w') : Rg w0 b L x w' := h.keep m (fun h => h) (fun _ _ h => h) (fun _ _ h => h)
theorem Rg.alloc {w0 : World} {b : Nat} {L : List UInt8} {x : RR} {w : World} (h : Rg w0 b L x w) (o : Go.Obj) : Rg w0 b L x (w.alloc o) := h.newer (Mod.alloc (Mod.refl _ _) o)
theorem Rg.bad {w0 : World} {b : Nat} {L : List UInt8} {x : RR} {w : World} (h : Rg w0 b L x w) : w.cell? ⟨b, 2, none⟩ = some (.bool x.bad) := by
  obtain ⟨A, c, hA⟩ := h.ex
  exact hA.has.cell (o := 2) rfl

set_option maxRecDepth 100000 in
set_option maxHeartbeats 1000000 in
theorem gInt_calls {w0 : World} {b : Nat} {L : List UInt8} {x : RR} {w : World} (h : Rg w0 b L x w) (hL : L.length ≤ 100000000) :
    Calls Tryd.prog 95 #[.pointer (some ⟨b, 0, none⟩)] w (RgPost w0 b L (gInt L x).2 (.int .i64 (gInt L x).1) w) := by
  obtain ⟨A, c, hA⟩ := h.ex
  have h0 := hA.has.cell (o := 0) rfl
  have h1 := hA.has.cell (o := 1) rfl
  have h2 := hA.has.cell (o := 2) rfl
  have f1 := hA.has.frozen 1
  have f2 := hA.has.frozen 2
  have hlt := hA.has.lt
  obtain ⟨bad, p⟩ := x
  cases bad with
  | true =>
    have HH := Lib.hid h
    have HA := Lib.hid hA
    clear h hA
    go_enter Tryd.func95, Tryd.ntmps95
    go_wp2_with fail
    go_ret
    exact ⟨rfl, HH.out, Mod.refl _ _⟩
  | false =>
    have hT := refTakeInt_calls A c L p w.drew (hA.cells.drewN 1) (by omega) hA.cap hA.max hA.adr
    have hin := takeI_in L p
    have htr : gInt L ⟨false, p⟩ = ((takeI L p).1, ⟨!(takeI L p).2.2, (takeI L p).2.1⟩) := by unfold gInt; rw [if_neg (by simp)]
    rw [htr]
    generalize takeI L p = r at *
    obtain ⟨n, q, ok⟩ := r
    unfold vI at hT
    dsimp only at *
    have g0 := fun (w' : World) (h : Mod0 w.drew w') => (h.cell (p := ⟨b, 0, none⟩) hlt (fun h => h)).trans h0
    have g1 := fun (w' : World) (h : Mod0 w.drew w') => (h.cell (p := ⟨b, 1, none⟩) hlt (fun h => h)).trans h1
    have HH := Lib.hid h
    have HA := Lib.hid hA
    have HT := Lib.hid hT
    have HN := Lib.hid hin
    clear h hA hT hin htr
    go_enter Tryd.func95, Tryd.ntmps95
    go_wp2_with fail
    refine region_m (by kernel_rfl) ?_
    simp only [List.length_cons, List.length_nil, List.replicate]
    refine take0 (v := ?v1) (oi := ?o1) 0 ?hi1 (by kernel_rfl) (by kernel_rfl) (by kernel_rfl) ?hq1 ?hy1 ?_
    case hi1 => (simp only [List.getElem?_toArray, List.getElem?_cons_zero, List.getElem?_cons_succ]; rfl)
    case hq1 => exact fun _ _ _ h => h
    case hy1 => first | (refine ry_not ?_; rfl) | (refine ry_run (by rfl) (fun w' hw' => ?_); go_simp; try rfl)
    simp only [Act.put, List.setIfInBounds_toArray, List.set_cons_zero, List.set_cons_succ]
    refine take0 (v := ?v2) (oi := ?o2) 1 ?hi2 (by kernel_rfl) (by kernel_rfl) (by kernel_rfl) ?hq2 ?hy2 ?_
    case hi2 => (simp only [List.getElem?_toArray, List.getElem?_cons_zero, List.getElem?_cons_succ]; rfl)
    case hq2 => exact fun _ _ _ h => h
    case hy2 => first | (refine ry_not ?_; rfl) | (refine ry_run (by rfl) (fun w' hw' => ?_); go_simp; try rfl)
    simp only [Act.put, List.setIfInBounds_toArray, List.set_cons_zero, List.set_cons_succ]
    refine take0 (v := ?v3) (oi := ?o3) 2 ?hi3 (by kernel_rfl) (by kernel_rfl) (by kernel_rfl) ?hq3 ?hy3 ?_
    case hi3 => (simp only [List.getElem?_toArray, List.getElem?_cons_zero, List.getElem?_cons_succ]; rfl)
    case hq3 => exact fun _ _ _ h => h
    case hy3 => first | (refine ry_not ?_; rfl) | (refine ry_run (by rfl) (fun w' hw' => ?_); go_simp; try rfl)
    simp only [Act.put, List.setIfInBounds_toArray, List.set_cons_zero, List.set_cons_succ]
    refine take0 (v := ?v4) (oi := ?o4) 3 ?hi4 (by kernel_rfl) (by kernel_rfl) (by kernel_rfl) ?hq4 ?hy4 ?_
    case hi4 => (simp only [List.getElem?_toArray, List.getElem?_cons_zero, List.getElem?_cons_succ]; rfl)
    case hq4 => exact fun _ _ _ h => h
    case hy4 => first | (refine ry_not ?_; rfl) | (refine ry_run (by rfl) (fun w' hw' => ?_); go_simp; try rfl)
    simp only [Act.put, List.setIfInBounds_toArray, List.set_cons_zero, List.set_cons_succ]
    refine take0 (v := ?v5) (oi := ?o5) 4 ?hi5 (by kernel_rfl) (by kernel_rfl) (by kernel_rfl) ?hq5 ?hy5 ?_
    case hi5 => (simp only [List.getElem?_toArray, List.getElem?_cons_zero, List.getElem?_cons_succ]; rfl)
    case hq5 => exact fun _ _ _ h => h
    case hy5 => first | (refine ry_not ?_; rfl) | (refine ry_run (by rfl) (fun w' hw' => ?_); go_simp; try rfl)
    simp only [Act.put, List.setIfInBounds_toArray, List.set_cons_zero, List.set_cons_succ]
    refine take0 (v := ?v6) (oi := ?o6) 5 ?hi6 (by kernel_rfl) (by kernel_rfl) (by kernel_rfl) ?hq6 ?hy6 ?_
    case hi6 => (simp only [List.getElem?_toArray, List.getElem?_cons_zero, List.getElem?_cons_succ]; rfl)
    case hq6 => exact fun _ _ _ h => h
    case hy6 => first | (refine ry_not ?_; rfl) | (refine ry_run (by rfl) (fun w' hw' => ?_); go_simp; try rfl)
    simp only [Act.put, List.setIfInBounds_toArray, List.set_cons_zero, List.set_cons_succ]
    refine take0 (v := ?v7) (oi := ?o7) 6 ?hi7 (by kernel_rfl) (by kernel_rfl) (by kernel_rfl) ?hq7 ?hy7 ?_
    case hi7 => (simp only [List.getElem?_toArray, List.getElem?_cons_zero, List.getElem?_cons_succ]; rfl)
    case hq7 => exact fun _ _ _ h => h
    case hy7 => first | (refine ry_not ?_; rfl) | (refine ry_run (by rfl) (fun w' hw' => ?_); go_simp; try rfl)
    simp only [Act.put, List.setIfInBounds_toArray, List.set_cons_zero, List.set_cons_succ]
    refine take0 (v := ?v8) (oi := ?o8) 7 ?hi8 (by kernel_rfl) (by kernel_rfl) (by kernel_rfl) ?hq8 ?hy8 ?_
    case hi8 => (simp only [List.getElem?_toArray, List.getElem?_cons_zero, List.getElem?_cons_succ]; rfl)
    case hq8 => exact fun _ _ _ h => h
    case hy8 => first | (refine ry_not ?_; rfl) | (refine ry_run (by rfl) (fun w' hw' => ?_); go_simp; try rfl)
    simp only [Act.put, List.setIfInBounds_toArray, List.set_cons_zero, List.set_cons_succ]
    refine step0 (o := ?o9) 8 (by kernel_rfl) ?hi9 ?hw9 ?_
    case hi9 => (simp only [List.getElem?_toArray, List.getElem?_cons_zero, List.getElem?_cons_succ]; rfl)
    case hw9 => rfl
    go_simp
    refine HT.out.mono ?_
    rintro e w1 ⟨rfl, hm1⟩
    refine ⟨.inl hm1, ?_⟩
    refine take0 (v := ?v10) (oi := ?o10) 9 ?hi10 (by kernel_rfl) (by kernel_rfl) (by kernel_rfl) ?hq10 ?hy10 ?_
    case hi10 => (simp only [List.getElem?_toArray, List.getElem?_cons_zero, List.getElem?_cons_succ]; rfl)
    case hq10 => exact fun _ _ _ h => h
    case hy10 => first | (refine ry_not ?_; rfl) | (refine ry_run (by rfl) (fun w' hw' => ?_); go_simp; try rfl)
    simp only [Act.put, List.setIfInBounds_toArray, List.set_cons_zero, List.set_cons_succ]
    refine take0 (v := ?v11) (oi := ?o11) 10 ?hi11 (by kernel_rfl) (by kernel_rfl) (by kernel_rfl) ?hq11 ?hy11 ?_
    case hi11 => (simp only [List.getElem?_toArray, List.getElem?_cons_zero, List.getElem?_cons_succ]; rfl)
    case hq11 => exact fun _ _ _ h => h
    case hy11 => first | (refine ry_not ?_; rfl) | (refine ry_run (by rfl) (fun w' hw' => ?_); go_simp; try rfl)
    simp only [Act.put, List.setIfInBounds_toArray, List.set_cons_zero, List.set_cons_succ]
    refine take0 (v := ?v12) (oi := ?o12) 11 ?hi12 (by kernel_rfl) (by kernel_rfl) (by kernel_rfl) ?hq12 ?hy12 ?_
    case hi12 => (simp only [List.getElem?_toArray, List.getElem?_cons_zero, List.getElem?_cons_succ]; rfl)
    case hq12 => exact fun _ _ _ h => h
    case hy12 => first | (refine ry_not ?_; rfl) | (refine ry_run (by rfl) (fun w' hw' => ?_); go_simp; try rfl)
    simp only [Act.put, List.setIfInBounds_toArray, List.set_cons_zero, List.set_cons_succ]
    refine take0 (v := ?v13) (oi := ?o13) 12 ?hi13 (by kernel_rfl) (by kernel_rfl) (by kernel_rfl) ?hq13 ?hy13 ?_
    case hi13 => (simp only [List.getElem?_toArray, List.getElem?_cons_zero, List.getElem?_cons_succ]; rfl)
    case hq13 => exact fun _ _ _ h => h
    case hy13 => first | (refine ry_not ?_; rfl) | (refine ry_run (by rfl) (fun w' hw' => ?_); go_simp; try rfl)
    simp only [Act.put, List.setIfInBounds_toArray, List.set_cons_zero, List.set_cons_succ]
    refine take0 (v := ?v14) (oi := ?o14) 13 ?hi14 (by kernel_rfl) (by kernel_rfl) (by kernel_rfl) ?hq14 ?hy14 ?_
    case hi14 => (simp only [List.getElem?_toArray, List.getElem?_cons_zero, List.getElem?_cons_succ]; rfl)
    case hq14 => exact fun _ _ _ h => h
    case hy14 => first | (refine ry_not ?_; rfl) | (refine ry_run (by rfl) (fun w' hw' => ?_); go_simp; try rfl)
    simp only [Act.put, List.setIfInBounds_toArray, List.set_cons_zero, List.set_cons_succ]
    refine take0 (v := ?v15) (oi := ?o15) 14 ?hi15 (by kernel_rfl) (by kernel_rfl) (by kernel_rfl) ?hq15 ?hy15 ?_
    case hi15 => (simp only [List.getElem?_toArray, List.getElem?_cons_zero, List.getElem?_cons_succ]; rfl)
    case hq15 => exact fun _ _ _ h => h
    case hy15 => first | (refine ry_not ?_; rfl) | (refine ry_run (by rfl) (fun w' hw' => ?_); go_simp; try rfl)
    simp only [Act.put, List.setIfInBounds_toArray, List.set_cons_zero, List.set_cons_succ]
    refine take0 (v := ?v16) (oi := ?o16) 15 ?hi16 (by kernel_rfl) (by kernel_rfl) (by kernel_rfl) ?hq16 ?hy16 ?_
    case hi16 => (simp only [List.getElem?_toArray, List.getElem?_cons_zero, List.getElem?_cons_succ]; rfl)
    case hq16 => exact fun _ _ _ h => h
    case hy16 => first | (refine ry_not ?_; rfl) | (refine ry_run (by rfl) (fun w' hw' => ?_); go_simp; try rfl)
    simp only [Act.put, List.setIfInBounds_toArray, List.set_cons_zero, List.set_cons_succ]
    refine wpAnyM_done (by kernel_rfl) ?_
    have hm1' : Mod (fun _ => False) w w1 := Mod.of_drew_l hm1
    have hR1 := HH.out.newer hm1'
    have hA1 : RgAt w1 b L A c ⟨false, p⟩ := ⟨HA.out.has.keep hm1' (fun h => h), HA.out.cells.keep hm1' (fun _ _ h => h), HA.out.adr, HA.out.cap, HA.out.max, HA.out.apart, HA.out.here⟩
    have q1 := hA1.has.cell (o := 1) rfl
    have q2 := hA1.has.cell (o := 2) rfl
    have k1 := hA1.has.frozen 1
    have k2 := hA1.has.frozen 2
    have HR1 := Lib.hid hR1
    have HA1 := Lib.hid hA1
    have HM1 := Lib.hid hm1'
    clear hR1 hA1 hm1 hm1' g0 g1 HT
    go_wp2_with fail
    go_ret
    have hmS : Mod (fun k => k = b) w1 ((w1.setCell ⟨b, 2, none⟩ (.bool (!ok))).setCell ⟨b, 1, none⟩ (.int .i64 q)) := ((Mod.refl (fun k => k = b) w1).set1 rfl _ _).set1 rfl _ _
    have hs := HR1.out.step (x' := ⟨!ok, q⟩) (u := .int .i64 0) HA1.out ((HA1.out.has.set 2 (.bool (!ok))).set 1 (.int .i64 q)) hmS ⟨HN.out.2.1, by have := HN.out.2.2; show q ≤ _; omega⟩
    exact ⟨rfl, hs.2.1, Mod.trans (HM1.out.mono fun _ _ h => h.elim) hmS (fun _ _ h => h)⟩

set_option maxRecDepth 100000 in
set_option maxHeartbeats 1000000 in
theorem gText_calls {w0 : World} {b : Nat} {L : List UInt8} {x : RR} {w : World} (h : Rg w0 b L x w) (most : Int) (hL : L.length ≤ 100000000) :
    Calls Tryd.prog 93 #[.pointer (some ⟨b, 0, none⟩), .int .i64 most] w (RgPost w0 b L (gText L most x).2 (.string ⟨(gText L most x).1.toArray⟩) w) := by
  obtain ⟨A, c, hA⟩ := h.ex
  have h0 := hA.has.cell (o := 0) rfl
  have h1 := hA.has.cell (o := 1) rfl
  have h2 := hA.has.cell (o := 2) rfl
  have f1 := hA.has.frozen 1
  have f2 := hA.has.frozen 2
  have hlt := hA.has.lt
  obtain ⟨bad, p⟩ := x
  cases bad with
  | true =>
    have HH := Lib.hid h
    have HA := Lib.hid hA
    clear h hA
    go_enter Tryd.func93, Tryd.ntmps93
    go_wp2_with fail
    go_ret
    exact ⟨rfl, HH.out, Mod.refl _ _⟩
  | false =>
    have hT := refTakeText_calls A c L p most w.drew (hA.cells.drewN 1) (by omega) hA.cap hA.max hA.adr
    have hin := takeT_in L p most
    have htr : gText L most ⟨false, p⟩ = ((takeT L p most).1, ⟨!(takeT L p most).2.2, (takeT L p most).2.1⟩) := by unfold gText; rw [if_neg (by simp)]
    rw [htr]
    generalize takeT L p most = r at *
    obtain ⟨n, q, ok⟩ := r
    unfold vT at hT
    dsimp only at *
    have g0 := fun (w' : World) (h : Mod0 w.drew w') => (h.cell (p := ⟨b, 0, none⟩) hlt (fun h => h)).trans h0
    have g1 := fun (w' : World) (h : Mod0 w.drew w') => (h.cell (p := ⟨b, 1, none⟩) hlt (fun h => h)).trans h1
    have HH := Lib.hid h
    have HA := Lib.hid hA
    have HT := Lib.hid hT
    have HN := Lib.hid hin
    clear h hA hT hin htr
    go_enter Tryd.func93, Tryd.ntmps93
    go_wp2_with fail
    refine region_m (by kernel_rfl) ?_
    simp only [List.length_cons, List.length_nil, List.replicate]
    refine take0 (v := ?v17) (oi := ?o17) 0 ?hi17 (by kernel_rfl) (by kernel_rfl) (by kernel_rfl) ?hq17 ?hy17 ?_
    case hi17 => (simp only [List.getElem?_toArray, List.getElem?_cons_zero, List.getElem?_cons_succ]; rfl)
    case hq17 => exact fun _ _ _ h => h
    case hy17 => first | (refine ry_not ?_; rfl) | (refine ry_run (by rfl) (fun w' hw' => ?_); go_simp; try rfl)
    simp only [Act.put, List.setIfInBounds_toArray, List.set_cons_zero, List.set_cons_succ]
    refine take0 (v := ?v18) (oi := ?o18) 1 ?hi18 (by kernel_rfl) (by kernel_rfl) (by kernel_rfl) ?hq18 ?hy18 ?_
    case hi18 => (simp only [List.getElem?_toArray, List.getElem?_cons_zero, List.getElem?_cons_succ]; rfl)
    case hq18 => exact fun _ _ _ h => h
    case hy18 => first | (refine ry_not ?_; rfl) | (refine ry_run (by rfl) (fun w' hw' => ?_); go_simp; try rfl)
    simp only [Act.put, List.setIfInBounds_toArray, List.set_cons_zero, List.set_cons_succ]
    refine take0 (v := ?v19) (oi := ?o19) 2 ?hi19 (by kernel_rfl) (by kernel_rfl) (by kernel_rfl) ?hq19 ?hy19 ?_
    case hi19 => (simp only [List.getElem?_toArray, List.getElem?_cons_zero, List.getElem?_cons_succ]; rfl)
    case hq19 => exact fun _ _ _ h => h
    case hy19 => first | (refine ry_not ?_; rfl) | (refine ry_run (by rfl) (fun w' hw' => ?_); go_simp; try rfl)
    simp only [Act.put, List.setIfInBounds_toArray, List.set_cons_zero, List.set_cons_succ]
    refine take0 (v := ?v20) (oi := ?o20) 3 ?hi20 (by kernel_rfl) (by kernel_rfl) (by kernel_rfl) ?hq20 ?hy20 ?_
    case hi20 => (simp only [List.getElem?_toArray, List.getElem?_cons_zero, List.getElem?_cons_succ]; rfl)
    case hq20 => exact fun _ _ _ h => h
    case hy20 => first | (refine ry_not ?_; rfl) | (refine ry_run (by rfl) (fun w' hw' => ?_); go_simp; try rfl)
    simp only [Act.put, List.setIfInBounds_toArray, List.set_cons_zero, List.set_cons_succ]
    refine take0 (v := ?v21) (oi := ?o21) 4 ?hi21 (by kernel_rfl) (by kernel_rfl) (by kernel_rfl) ?hq21 ?hy21 ?_
    case hi21 => (simp only [List.getElem?_toArray, List.getElem?_cons_zero, List.getElem?_cons_succ]; rfl)
    case hq21 => exact fun _ _ _ h => h
    case hy21 => first | (refine ry_not ?_; rfl) | (refine ry_run (by rfl) (fun w' hw' => ?_); go_simp; try rfl)
    simp only [Act.put, List.setIfInBounds_toArray, List.set_cons_zero, List.set_cons_succ]
    refine take0 (v := ?v22) (oi := ?o22) 5 ?hi22 (by kernel_rfl) (by kernel_rfl) (by kernel_rfl) ?hq22 ?hy22 ?_
    case hi22 => (simp only [List.getElem?_toArray, List.getElem?_cons_zero, List.getElem?_cons_succ]; rfl)
    case hq22 => exact fun _ _ _ h => h
    case hy22 => first | (refine ry_not ?_; rfl) | (refine ry_run (by rfl) (fun w' hw' => ?_); go_simp; try rfl)
    simp only [Act.put, List.setIfInBounds_toArray, List.set_cons_zero, List.set_cons_succ]
    refine take0 (v := ?v23) (oi := ?o23) 6 ?hi23 (by kernel_rfl) (by kernel_rfl) (by kernel_rfl) ?hq23 ?hy23 ?_
    case hi23 => (simp only [List.getElem?_toArray, List.getElem?_cons_zero, List.getElem?_cons_succ]; rfl)
    case hq23 => exact fun _ _ _ h => h
    case hy23 => first | (refine ry_not ?_; rfl) | (refine ry_run (by rfl) (fun w' hw' => ?_); go_simp; try rfl)
    simp only [Act.put, List.setIfInBounds_toArray, List.set_cons_zero, List.set_cons_succ]
    refine take0 (v := ?v24) (oi := ?o24) 7 ?hi24 (by kernel_rfl) (by kernel_rfl) (by kernel_rfl) ?hq24 ?hy24 ?_
    case hi24 => (simp only [List.getElem?_toArray, List.getElem?_cons_zero, List.getElem?_cons_succ]; rfl)
    case hq24 => exact fun _ _ _ h => h
    case hy24 => first | (refine ry_not ?_; rfl) | (refine ry_run (by rfl) (fun w' hw' => ?_); go_simp; try rfl)
    simp only [Act.put, List.setIfInBounds_toArray, List.set_cons_zero, List.set_cons_succ]
    refine take0 (v := ?v25) (oi := ?o25) 8 ?hi25 (by kernel_rfl) (by kernel_rfl) (by kernel_rfl) ?hq25 ?hy25 ?_
    case hi25 => (simp only [List.getElem?_toArray, List.getElem?_cons_zero, List.getElem?_cons_succ]; rfl)
    case hq25 => exact fun _ _ _ h => h
    case hy25 => first | (refine ry_not ?_; rfl) | (refine ry_run (by rfl) (fun w' hw' => ?_); go_simp; try rfl)
    simp only [Act.put, List.setIfInBounds_toArray, List.set_cons_zero, List.set_cons_succ]
    refine step0 (o := ?o26) 9 (by kernel_rfl) ?hi26 ?hw26 ?_
    case hi26 => (simp only [List.getElem?_toArray, List.getElem?_cons_zero, List.getElem?_cons_succ]; rfl)
    case hw26 => rfl
    go_simp
    refine HT.out.mono ?_
    rintro e w1 ⟨rfl, hm1⟩
    refine ⟨.inl hm1, ?_⟩
    refine take0 (v := ?v27) (oi := ?o27) 10 ?hi27 (by kernel_rfl) (by kernel_rfl) (by kernel_rfl) ?hq27 ?hy27 ?_
    case hi27 => (simp only [List.getElem?_toArray, List.getElem?_cons_zero, List.getElem?_cons_succ]; rfl)
    case hq27 => exact fun _ _ _ h => h
    case hy27 => first | (refine ry_not ?_; rfl) | (refine ry_run (by rfl) (fun w' hw' => ?_); go_simp; try rfl)
    simp only [Act.put, List.setIfInBounds_toArray, List.set_cons_zero, List.set_cons_succ]
    refine take0 (v := ?v28) (oi := ?o28) 11 ?hi28 (by kernel_rfl) (by kernel_rfl) (by kernel_rfl) ?hq28 ?hy28 ?_
    case hi28 => (simp only [List.getElem?_toArray, List.getElem?_cons_zero, List.getElem?_cons_succ]; rfl)
    case hq28 => exact fun _ _ _ h => h
    case hy28 => first | (refine ry_not ?_; rfl) | (refine ry_run (by rfl) (fun w' hw' => ?_); go_simp; try rfl)
    simp only [Act.put, List.setIfInBounds_toArray, List.set_cons_zero, List.set_cons_succ]
    refine take0 (v := ?v29) (oi := ?o29) 12 ?hi29 (by kernel_rfl) (by kernel_rfl) (by kernel_rfl) ?hq29 ?hy29 ?_
    case hi29 => (simp only [List.getElem?_toArray, List.getElem?_cons_zero, List.getElem?_cons_succ]; rfl)
    case hq29 => exact fun _ _ _ h => h
    case hy29 => first | (refine ry_not ?_; rfl) | (refine ry_run (by rfl) (fun w' hw' => ?_); go_simp; try rfl)
    simp only [Act.put, List.setIfInBounds_toArray, List.set_cons_zero, List.set_cons_succ]
    refine take0 (v := ?v30) (oi := ?o30) 13 ?hi30 (by kernel_rfl) (by kernel_rfl) (by kernel_rfl) ?hq30 ?hy30 ?_
    case hi30 => (simp only [List.getElem?_toArray, List.getElem?_cons_zero, List.getElem?_cons_succ]; rfl)
    case hq30 => exact fun _ _ _ h => h
    case hy30 => first | (refine ry_not ?_; rfl) | (refine ry_run (by rfl) (fun w' hw' => ?_); go_simp; try rfl)
    simp only [Act.put, List.setIfInBounds_toArray, List.set_cons_zero, List.set_cons_succ]
    refine take0 (v := ?v31) (oi := ?o31) 14 ?hi31 (by kernel_rfl) (by kernel_rfl) (by kernel_rfl) ?hq31 ?hy31 ?_
    case hi31 => (simp only [List.getElem?_toArray, List.getElem?_cons_zero, List.getElem?_cons_succ]; rfl)
    case hq31 => exact fun _ _ _ h => h
    case hy31 => first | (refine ry_not ?_; rfl) | (refine ry_run (by rfl) (fun w' hw' => ?_); go_simp; try rfl)
    simp only [Act.put, List.setIfInBounds_toArray, List.set_cons_zero, List.set_cons_succ]
    refine take0 (v := ?v32) (oi := ?o32) 15 ?hi32 (by kernel_rfl) (by kernel_rfl) (by kernel_rfl) ?hq32 ?hy32 ?_
    case hi32 => (simp only [List.getElem?_toArray, List.getElem?_cons_zero, List.getElem?_cons_succ]; rfl)
    case hq32 => exact fun _ _ _ h => h
    case hy32 => first | (refine ry_not ?_; rfl) | (refine ry_run (by rfl) (fun w' hw' => ?_); go_simp; try rfl)
    simp only [Act.put, List.setIfInBounds_toArray, List.set_cons_zero, List.set_cons_succ]
    refine take0 (v := ?v33) (oi := ?o33) 16 ?hi33 (by kernel_rfl) (by kernel_rfl) (by kernel_rfl) ?hq33 ?hy33 ?_
    case hi33 => (simp only [List.getElem?_toArray, List.getElem?_cons_zero, List.getElem?_cons_succ]; rfl)
    case hq33 => exact fun _ _ _ h => h
    case hy33 => first | (refine ry_not ?_; rfl) | (refine ry_run (by rfl) (fun w' hw' => ?_); go_simp; try rfl)
    simp only [Act.put, List.setIfInBounds_toArray, List.set_cons_zero, List.set_cons_succ]
    refine wpAnyM_done (by kernel_rfl) ?_
    have hm1' : Mod (fun _ => False) w w1 := Mod.of_drew_l hm1
    have hR1 := HH.out.newer hm1'
    have hA1 : RgAt w1 b L A c ⟨false, p⟩ := ⟨HA.out.has.keep hm1' (fun h => h), HA.out.cells.keep hm1' (fun _ _ h => h), HA.out.adr, HA.out.cap, HA.out.max, HA.out.apart, HA.out.here⟩
    have q1 := hA1.has.cell (o := 1) rfl
    have q2 := hA1.has.cell (o := 2) rfl
    have k1 := hA1.has.frozen 1
    have k2 := hA1.has.frozen 2
    have HR1 := Lib.hid hR1
    have HA1 := Lib.hid hA1
    have HM1 := Lib.hid hm1'
    clear hR1 hA1 hm1 hm1' g0 g1 HT
    go_wp2_with fail
    go_ret
    have hmS : Mod (fun k => k = b) w1 ((w1.setCell ⟨b, 2, none⟩ (.bool (!ok))).setCell ⟨b, 1, none⟩ (.int .i64 q)) := ((Mod.refl (fun k => k = b) w1).set1 rfl _ _).set1 rfl _ _
    have hs := HR1.out.step (x' := ⟨!ok, q⟩) (u := .int .i64 0) HA1.out ((HA1.out.has.set 2 (.bool (!ok))).set 1 (.int .i64 q)) hmS ⟨HN.out.1, by have := HN.out.2.1; show q ≤ _; omega⟩
    exact ⟨rfl, hs.2.1, Mod.trans (HM1.out.mono fun _ _ h => h.elim) hmS (fun _ _ h => h)⟩

set_option maxRecDepth 100000 in
set_option maxHeartbeats 1000000 in
theorem gId_calls {w0 : World} {b : Nat} {L : List UInt8} {x : RR} {w : World} (h : Rg w0 b L x w) (hL : L.length ≤ 100000000) :
    Calls Tryd.prog 96 #[.pointer (some ⟨b, 0, none⟩)] w (RgPost w0 b L (gId L x).2 (.string ⟨(gId L x).1.toArray⟩) w) := by
  obtain ⟨A, c, hA⟩ := h.ex
  have h0 := hA.has.cell (o := 0) rfl
  have h1 := hA.has.cell (o := 1) rfl
  have h2 := hA.has.cell (o := 2) rfl
  have f1 := hA.has.frozen 1
  have f2 := hA.has.frozen 2
  have hlt := hA.has.lt
  have hp := hA.here
  obtain ⟨bad, p⟩ := x
  dsimp only at *
  have hsub : IntKind.i64.wrap ((L.length : Int) - p) = (L.length : Int) - p := by rw [IntKind.wrap_i64]; omega
  by_cases hbad : bad = true ∨ (L.length : Int) - p < 32
  · have htr : gId L ⟨bad, p⟩ = ([], ⟨true, p⟩) := by unfold gId; rw [if_pos hbad]
    rw [htr]
    have hst : ∀ n, RgPost w0 b L ⟨true, p⟩ (.string ⟨#[]⟩) w (.returned (.string ⟨#[]⟩)) ((w.drewN n).setCell ⟨b, 2, none⟩ (.bool true)) := fun n =>
      h.step hA ((hA.has.drewN n).set 2 (.bool true)) (((Mod.refl (fun k => k = b) w).drewN n).set1 rfl _ _) hp
    have HST := Lib.hid hst
    clear h hA htr hst
    cases bad with
    | true =>
      clear hbad
      go_enter Tryd.func96, Tryd.ntmps96
      go_wp2_with fail
      go_quiet (fail)
      go_wp2_with fail
      go_ret
      exact HST.out _
    | false =>
      have hlt : (L.length : Int) - p < 32 := by
        rcases hbad with h | h
        · cases h
        · exact h
      clear hbad
      go_enter Tryd.func96, Tryd.ntmps96
      go_wp2_with fail
      go_quiet (fail)
      go_wp2_with fail
      go_ret
      exact HST.out _
  · have hb0 : bad = false := by cases bad; rfl; exact absurd (.inl rfl) hbad
    subst hb0
    have hge : ¬ (L.length : Int) - p < 32 := fun h => hbad (.inr h)
    obtain ⟨q, rfl⟩ : ∃ q : Nat, p = (q : Int) := ⟨p.toNat, by omega⟩
    have htr : gId L ⟨false, q⟩ = ((L.drop q).take 32, ⟨false, (q : Int) + 32⟩) := by unfold gId; rw [if_neg hbad]; simp
    rw [htr]
    obtain ⟨A', hsl, hadr', hcl'⟩ := slice_any (P := Tryd.prog) 111 5 q 32 hA.cells hA.adr Tryd.underlying111 (by kernel_rfl) (by omega) hA.cap
    have hsl2 : ∀ w' : World, (Instr.slice 111 (.slice A L.length c) (some (.int .i64 q)) (some (.int .i64 ((q : Int) + 32))) none).run Tryd.prog w' = .ok (.slice A' 32 (c - q)) w' := hsl
    clear hsl
    have hlen : ((L.drop q).take 32).length = 32 := by rw [List.length_take, List.length_drop]; omega
    have hadd : IntKind.i64.wrap ((q : Int) + 32) = (q : Int) + 32 := by rw [IntKind.wrap_i64]; omega
    have hsb : IntKind.i64.wrap ((q : Int) + 32 - 32) = (q : Int) := by rw [IntKind.wrap_i64]; omega
    have hmS : ∀ n, Mod (fun k => k = b) w ((w.drewN n).setCell ⟨b, 1, none⟩ (.int .i64 ((q : Int) + 32))) := fun n => ((Mod.refl (fun k => k = b) w).drewN n).set1 rfl _ _
    have hst : ∀ n, RgPost w0 b L ⟨false, (q : Int) + 32⟩ (.string ⟨((L.drop q).take 32).toArray⟩) w (.returned (.string ⟨((L.drop q).take 32).toArray⟩)) ((w.drewN n).setCell ⟨b, 1, none⟩ (.int .i64 ((q : Int) + 32))) := fun n =>
      h.step hA ((hA.has.drewN n).set 1 (.int .i64 ((q : Int) + 32))) (hmS n) ⟨by show (0:Int) ≤ (q:Int) + 32; omega, by show (q:Int) + 32 ≤ _; omega⟩
    have HST := Lib.hid hst
    have hcl2 : ∀ w2, Cells w2 A (bv L) → Cells w2 A' (bv ((L.drop q).take 32)) := fun w2 hc2 => by
      obtain ⟨A2, hs2, _, hc3⟩ := slice_any (P := Tryd.prog) 111 5 q 32 hc2 hA.adr Tryd.underlying111 (by kernel_rfl) (by omega) hA.cap
      have hh := (hsl2 w2).symm.trans (hs2 w2)
      obtain rfl : A' = A2 := by simpa using hh
      exact hc3
    have hcv := fun n m => run_bytes (P := Tryd.prog) (c - q) ((hcl2 _ (hA.cells.keep (hmS n) hA.apart)).drewN m) 111 9 5 Tryd.underlying111 Tryd.underlying5 Tryd.underlying9
    rw [hlen] at hcv
    have h0' := fun n => ((hA.has.drewN n).set 1 (.int .i64 ((q : Int) + 32))).cell (o := 0) rfl
    have h1' := fun n => ((hA.has.drewN n).set 1 (.int .i64 ((q : Int) + 32))).cell (o := 1) rfl
    have HA := Lib.hid hA
    generalize (L.drop q).take 32 = id at *
    clear h hA htr hbad hadr' hcl' hmS hst hcl2
    go_enter Tryd.func96, Tryd.ntmps96
    go_wp2_with fail
    go_quiet (fail)
    obtain ⟨n1, rfl⟩ : ∃ n1, n1 = nq := ⟨_, rfl⟩
    go_wp2_with fail
    have h0'' := h0' n1
    have h1'' := h1' n1
    have hcv' := hcv n1
    clear h0 h1 h0' h1' hcv
    go_quiet (fail)
    go_wp2_with fail
    go_ret
    exact ⟨rfl, (HST.out n1).2.1.newer (Mod.drewN (Mod.refl _ _) _), (HST.out n1).2.2.drewN _⟩

set_option maxRecDepth 100000 in
theorem gEnds_calls {w0 : World} {b : Nat} {L : List UInt8} {x : RR} {w : World} (h : Rg w0 b L x w) (hL : L.length ≤ 100000000) :
    Calls Tryd.prog 94 #[.pointer (some ⟨b, 0, none⟩)] w fun e w' => e = .returned (.bool (gEnds L x)) ∧ Mod (fun _ => False) w w' := by
  obtain ⟨A, c, hA⟩ := h.ex
  have h0 := hA.has.cell (o := 0) rfl
  have h1 := hA.has.cell (o := 1) rfl
  have h2 := hA.has.cell (o := 2) rfl
  obtain ⟨bad, p⟩ := x
  dsimp only at *
  clear h hA
  cases bad with
  | true =>
    go_enter Tryd.func94, Tryd.ntmps94
    go_wp2_with fail
    go_quiet (fail)
    go_wp2_with fail
    go_ret
    exact ⟨rfl, by (repeat (first | with_reducible exact Mod.refl _ _ | with_reducible apply Mod.drew | with_reducible apply Mod.drewN | with_reducible apply Mod.alloc | refine Mod.set1 ?_ (by first | exact rfl | simp) _ _))⟩
  | false =>
    by_cases he : p = (L.length : Int)
    · have q1 : (p == (L.length : Int)) = true := by simpa using he
      have hr : gEnds L ⟨false, p⟩ = true := by simp [gEnds, he]
      rw [hr]
      clear he hr
      go_enter Tryd.func94, Tryd.ntmps94
      go_wp2_with fail
      go_quiet (fail)
      go_wp2_with fail
      go_ret
      exact ⟨rfl, by (repeat (first | with_reducible exact Mod.refl _ _ | with_reducible apply Mod.drew | with_reducible apply Mod.drewN | with_reducible apply Mod.alloc | refine Mod.set1 ?_ (by first | exact rfl | simp) _ _))⟩
    · have q1 : (p == (L.length : Int)) = false := by simpa using he
      have hr : gEnds L ⟨false, p⟩ = false := by simp [gEnds, he]
      rw [hr]
      clear he hr
      go_enter Tryd.func94, Tryd.ntmps94
      go_wp2_with fail
      go_quiet (fail)
      go_wp2_with fail
      go_ret
      exact ⟨rfl, by (repeat (first | with_reducible exact Mod.refl _ _ | with_reducible apply Mod.drew | with_reducible apply Mod.drewN | with_reducible apply Mod.alloc | refine Mod.set1 ?_ (by first | exact rfl | simp) _ _))⟩

set_option maxRecDepth 100000 in
set_option maxHeartbeats 1000000 in
theorem gCount_calls {w0 : World} {b : Nat} {L : List UInt8} {x : RR} {w : World} (h : Rg w0 b L x w) (most : Int) (hL : L.length ≤ 100000000) :
    Calls Tryd.prog 92 #[.pointer (some ⟨b, 0, none⟩), .int .i64 most] w (RgPost w0 b L (gCount L most x).2 (.int .i64 (gCount L most x).1) w) := by
  have HI := Lib.hid (gInt_calls h hL)
  clear h
  unfold gCount
  generalize gInt L x = r at *
  obtain ⟨n, y⟩ := r
  dsimp only at *
  by_cases h1 : n < 0
  · rw [if_pos (.inl h1)]
    go_enter Tryd.func92, Tryd.ntmps92
    go_wp2_with fail
    refine HI.out.mono ?_
    rintro e w1 ⟨rfl, hR, hm⟩
    obtain ⟨A, c, hA⟩ := hR.ex
    have k2 := hA.has.cell (o := 2) rfl
    have f2 := hA.has.frozen 2
    have HR := Lib.hid hR
    have HA := Lib.hid hA
    have HM := Lib.hid hm
    clear hR hA hm
    go_wp2_with fail
    go_ret
    have hmS := (Mod.refl (fun k => k = b) w1).set1 rfl 2 (.bool true)
    have hs := HR.out.step (x' := ⟨true, y.p⟩) (u := .int .i64 0) HA.out (HA.out.has.set 2 (.bool true)) hmS HA.out.here
    exact ⟨rfl, hs.2.1, Mod.trans HM.out hmS (fun _ _ h => h)⟩
  · by_cases h2 : most < n
    · rw [if_pos (.inr h2)]
      go_enter Tryd.func92, Tryd.ntmps92
      go_wp2_with fail
      refine HI.out.mono ?_
      rintro e w1 ⟨rfl, hR, hm⟩
      obtain ⟨A, c, hA⟩ := hR.ex
      have k2 := hA.has.cell (o := 2) rfl
      have f2 := hA.has.frozen 2
      have HR := Lib.hid hR
      have HA := Lib.hid hA
      have HM := Lib.hid hm
      clear hR hA hm
      go_wp2_with fail
      go_ret
      have hmS := (Mod.refl (fun k => k = b) w1).set1 rfl 2 (.bool true)
      have hs := HR.out.step (x' := ⟨true, y.p⟩) (u := .int .i64 0) HA.out (HA.out.has.set 2 (.bool true)) hmS HA.out.here
      exact ⟨rfl, hs.2.1, Mod.trans HM.out hmS (fun _ _ h => h)⟩
    · rw [if_neg (fun h => h.elim h1 h2)]
      go_enter Tryd.func92, Tryd.ntmps92
      go_wp2_with fail
      refine HI.out.mono ?_
      rintro e w1 ⟨rfl, hR, hm⟩
      go_wp2_with fail
      go_ret
      exact ⟨rfl, hR, hm⟩

def begunBad (L : List UInt8) (m : UInt8) : Bool := !decide (L.head? = some m)
set_option maxRecDepth 100000 in
set_option maxHeartbeats 1000000 in
theorem begun_calls (s : ByteArray) (m : UInt8) (w : World) (hs : s.size ≤ 100000000) :
    Calls Tryd.prog 91 #[.string s, .int .u8 (m.toNat : Int)] w fun e w' => ∃ b, e = .returned (.pointer (some ⟨b, 0, none⟩)) ∧ Rg w b s.data.toList ⟨begunBad s.data.toList m, 1⟩ w' := by
  have hlen : s.data.toList.length = s.size := by simp
  obtain ⟨c1, w1, hE, hM1, hC1, hN1, hx1, hg1, hf1, hrow⟩ := to_bytes s w (by unfold maxLen; omega)
  have HC := Lib.hid hC1
  have HM := Lib.hid hM1
  have HRW := Lib.hid hrow
  clear hC1 hM1 hrow hf1
  have fin : ∀ bad, begunBad s.data.toList m = bad → Rg w w1.heap.size s.data.toList ⟨begunBad s.data.toList m, 1⟩ (w1.alloc (.cells #[.slice (some ⟨w.heap.size, 0, none⟩) s.size c1, .int .i64 1, .bool bad] 145)) := by
    intro bad hbad
    have hmA : Mod (fun _ => False) w1 (w1.alloc (.cells #[.slice (some ⟨w.heap.size, 0, none⟩) s.size c1, .int .i64 1, .bool bad] 145)) := (Mod.refl (fun _ => False) w1).alloc _
    refine Rg.mk' (A := some ⟨w.heap.size, 0, none⟩) (c := c1) ⟨?_, .inr ⟨_, 0, rfl, fun j u hj => by rw [Nat.zero_add, cell_new_old _ _ _ hg1]; exact HC.out j u hj⟩, .inr ⟨_, _, rfl⟩, by omega, hx1, ?_, by show (0:Int) ≤ 1; omega, by show (1:Int) ≤ _; omega⟩ (by omega) (HM.out.alloc _) ?_
    · rw [hlen, hbad]; exact Has.new w1 _ _
    · intro a ha; obtain rfl := Option.some.inj ha; show w.heap.size ≠ w1.heap.size; omega
    · intro a ha
      obtain rfl := Option.some.inj ha
      obtain ⟨cur, fr, hr, hf⟩ := HRW.out
      exact ⟨⟨cur, fr, (hmA.block _ hg1 (fun h => h)).trans hr⟩, Nat.le_refl _⟩
  have HF := Lib.hid fin
  clear fin
  by_cases h0 : s.size = 0
  · have hz : ((s.size : Int) == 0) = true := by simp; exact ByteArray.ext (Array.eq_empty_of_size_eq_zero h0)
    have hb : begunBad s.data.toList m = true := by
      have : s.data.toList = [] := List.eq_nil_of_length_eq_zero (by omega)
      rw [this]; rfl
    have HB := Lib.hid hb
    clear hb h0
    go_enter Tryd.func91, Tryd.ntmps91
    go_wp2_with fail
    go_ret
    exact ⟨_, rfl, HF.out true HB.out⟩
  · have hp : 0 < s.size := by omega
    have hz : ((s.size : Int) == 0) = false := by simp; exact fun h => h0 (by rw [h]; rfl)
    have hnz : ¬ s = ByteArray.empty := fun h => h0 (by rw [h]; rfl)
    obtain ⟨c, hc⟩ : ∃ c, s[0] = c := ⟨_, rfl⟩
    have e0 : ∀ h : 0 < s.size, s[0]'h = c := fun _ => hc
    have hd : s.data.toList.head? = some c := by
      rw [List.head?_eq_getElem?, List.getElem?_eq_getElem (by omega)]
      congr 1
    by_cases h1 : c = m
    · have hb : begunBad s.data.toList m = false := by unfold begunBad; rw [hd, h1]; simp
      have HB := Lib.hid hb
      subst h1
      clear hb h0 hc hd
      go_enter Tryd.func91, Tryd.ntmps91
      go_wp2_with fail
      go_ret
      exact ⟨_, rfl, HF.out false HB.out⟩
    · have hb : begunBad s.data.toList m = true := by unfold begunBad; rw [hd]; simp [h1]
      have HB := Lib.hid hb
      have i1 : ((c.toNat : Int) == (m.toNat : Int)) = false := by
        simp; intro h; exact h1 (UInt8.toNat_inj.1 (by omega))
      clear hb h0 hc hd h1
      go_enter Tryd.func91, Tryd.ntmps91
      go_wp2_with fail
      go_ret
      exact ⟨_, rfl, HF.out ((c.toNat : Int) != (m.toNat : Int)) (by rw [HB.out]; unfold bne; rw [i1]; rfl)⟩
end Obj
end Go.Proofs.YtpoljpjcmigobaaDoor
