/- Joined texts: Ky, BlobY. -/
import Derived.Test.YthgcjfpaekpeeaaDoorJ17
import Derived.Test.YthgcjfpaekpeeaaDoorJ19
import Derived.Test.YthgcjfpaekpeeaaDoorJ41
/- Opening arguments that are slices of objects, or parts. -/
namespace Go.Proofs.YthgcjfpaekpeeaaDoor
set_option linter.unusedVariables false
set_option linter.unusedSimpArgs false
open Go.RowKit Go.ChangeShapes Go.WideShapes Go.Deep
namespace K
open Wire
open Go.Proofs.YthgcjfpaekpeeaaDoor.Obj

set_option maxRecDepth 100000 in
/-- a slice of objects that came in, from its cells -/
theorem open_objs {H : Type} {enc : TypeId × Value → H} {W : World} {base : Nat} {held : Bool} {fuel : Nat} {v : Value} {x : DataW H × List MemPlace}
    (h : DataW.trod enc Tryd.prog W base (fun _ => true) held fuel 26 [v] = some x) :
    ∃ (A : Option Addr) (kids : List Blob.Ob) (cap : Nat), v = .slice A kids.length cap ∧ Cells W A (kids.flatMap Blob.oc) ∧ (kids.map fun p => p.id.size + p.bytes.size).sum + 2 * kids.length ≤ Rows.uptoBulk x.1 := by
  rcases open_slice_pairs Tryd.underlying26 Tryd.underlying60 (by kernel_rfl) rfl rfl (by kernel_rfl) (by kernel_rfl) h with ⟨hcs, rfl⟩ | ⟨a, len, cap, m, n, V0, V1, D0, D1, P0, P1, hcs, _, hl, hm, hmm, rfl, hx⟩
  · obtain rfl : v = .slice none 0 0 := by simpa using hcs
    exact ⟨none, [], 0, rfl, .inl rfl, by simp⟩
  · obtain rfl : v = .slice (some a) len cap := by simpa using hcs
    rw [if_pos rfl] at hmm
    subst hmm
    have each : ∀ i, i < m → ∃ q : ByteArray × ByteArray, V0 i = .string q.1 ∧ D0 i = .lit (.string q.1.data.toList) ∧ V1 i = .string q.2 ∧ D1 i = .lit (.string q.2.data.toList) := fun i hi => by
      obtain ⟨_, _, h2, h3⟩ := hx i hi
      obtain ⟨s, g1, g2, _⟩ := DataW.trod_string Tryd.underlying9 h2
      obtain ⟨z, g3, g4, _⟩ := DataW.trod_string Tryd.underlying9 h3
      simp only [Prod.mk.injEq] at g2 g4
      exact ⟨(s, z), by simpa using g1, g2.1, by simpa using g3, g4.1⟩
    obtain ⟨q, hq⟩ := choose_lt each
    obtain ⟨kids, hk⟩ : ∃ kids : List Blob.Ob, kids = (List.range len).map fun i => ⟨(q i).1, (q i).2⟩ := ⟨_, rfl⟩
    have hkl : kids.length = len := by rw [hk]; simp
    have hkg : ∀ i (h : i < kids.length), kids[i] = ⟨(q i).1, (q i).2⟩ := fun i h => by subst hk; simp
    refine ⟨some a, kids, m, by rw [hkl], ?_, ?_⟩
    · by_cases h0 : len = 0
      · exact .inl (by rw [hk, h0]; rfl)
      · have hsp : a.spot = none := by
          have h1 := (hx 0 (by omega)).1
          cases hs : a.spot with
          | none => rfl
          | some s =>
            unfold World.cell? at h1
            rw [show (a.add (0 * 2)) = a by simp [Addr.add], hs] at h1
            split at h1 <;> simp at h1
        obtain ⟨b, o, s⟩ := a
        obtain rfl : s = none := hsp
        refine .inr ⟨b, o, rfl, fun j u hj => ?_⟩
        have hjl : j < kids.length * 2 := by
          have := (List.getElem?_eq_some_iff.1 hj).1
          rw [flat_len Blob.oc_len] at this; exact this
        obtain ⟨i, r, hr, rfl⟩ : ∃ i r, r < 2 ∧ j = i * 2 + r := ⟨j / 2, j % 2, Nat.mod_lt _ (by omega), by omega⟩
        have hi : i < kids.length := by omega
        rw [flat_get Blob.oc_len kids i r hi hr, hkg i hi] at hj
        obtain ⟨c0, c1, _, _⟩ := hx i (by omega)
        rw [Addr.add_lit] at c0 c1
        obtain ⟨q0, _, q1, _⟩ := hq i (by omega)
        match r, hr with
        | 0, _ => simp [Blob.oc] at hj; subst hj; rw [Nat.add_zero, c0, q0]
        | 1, _ => simp [Blob.oc] at hj; subst hj; rw [c1, q1]
    · have hb : ∀ n, n ≤ len → (((List.range n).map fun i => (⟨(q i).1, (q i).2⟩ : Blob.Ob)).map fun p => p.id.size + p.bytes.size).sum + 2 * n ≤ Rows.uptoBulkAll ((List.range n).map fun i => DataW.agg [D0 i, D1 i]) := by
        intro n
        induction n with
        | zero => intro _; simp
        | succ n ih =>
          intro hn
          have ih := ih (by omega)
          obtain ⟨_, d0, _, d1⟩ := hq n (by omega)
          rw [List.range_succ, List.map_append, List.map_append, List.map_append, List.sum_append, bulk_app]
          simp only [List.map_cons, List.map_nil, List.sum_cons, List.sum_nil, Rows.uptoBulkAll, Rows.uptoBulk, d0, d1]
          have e : (q n).1.data.toList.length = (q n).1.size := by simp
          have e2 : (q n).2.data.toList.length = (q n).2.size := by simp
          omega
      have h1 := hb len (Nat.le_refl _)
      rw [← hk] at h1
      simp only [Rows.uptoBulk]
      omega

theorem sum_mem {l : List Blob.Ob} {o : Blob.Ob} (h : o ∈ l) : o.id.size + o.bytes.size ≤ (l.map fun p => p.id.size + p.bytes.size).sum := by
  induction l with
  | nil => cases h
  | cons a l ih =>
    rw [List.map_cons, List.sum_cons]
    rcases List.mem_cons.1 h with rfl | h
    · omega
    · have := ih h; omega
/-- what a law asks of its objects -/
structure ObjsIn (W : World) (A : Option Addr) (objs : List Blob.Ob) : Prop where
  row : Cells W A (objs.flatMap Blob.oc)
  many : objs.length ≤ 1048576
  small : ∀ o ∈ objs, o.id.size ≤ 1048576 ∧ o.bytes.size ≤ 1048576
  low : objs.flatMap Blob.oc ≠ [] → ∀ ad, A = some ad → ad.block < W.heap.size
set_option maxRecDepth 100000 in
theorem open_objs_arg {H : Type} {enc : TypeId × Value → H} {W : World} {base : Nat} {held : Bool} {r : Reach} {b0 : Nat} {v : Value} {d : DataW H} {pl : List MemPlace} {l : List (DataW H)}
    (hk : Rows.uptoSmall H l = true) (hd : d ∈ l) (hval : Value.okWide Tryd.prog W r b0 26 v)
    (h : DataW.Trod enc Tryd.prog W base (fun _ => true) held 26 v d pl) :
    ∃ (A : Option Addr) (kids : List Blob.Ob) (cap : Nat), v = .slice A kids.length cap ∧ ObjsIn W A kids := by
  have hb := bulk_at hk hd
  obtain ⟨A0, len0, cap0, rfl⟩ := okWide_slice Tryd.underlying26 hval
  obtain ⟨fuel, hf⟩ := h
  obtain ⟨A, kids, cap, g1, g2, g3⟩ := open_objs hf
  have g4 := Nat.le_trans g3 hb
  refine ⟨A, kids, cap, g1, g2, by omega, fun o ho => by have := sum_mem ho; omega, fun hne ad ha => ?_⟩
  rcases g2 with g2 | ⟨b, o, rfl, hc⟩
  · exact absurd g2 hne
  · injection ha with ha
    subst ha
    obtain ⟨u, hu⟩ : ∃ u, (kids.flatMap Blob.oc)[0]? = some u := by
      cases hx : kids.flatMap Blob.oc with
      | nil => exact absurd hx hne
      | cons u l => exact ⟨u, rfl⟩
    exact World.block_lt_of_cell? W _ (hc 0 u hu)
set_option maxRecDepth 100000 in
theorem open_part {H : Type} {enc : TypeId × Value → H} {W : World} {base : Nat} {held : Bool} {r : Reach} {b0 : Nat} {v : Value} {d : DataW H} {pl : List MemPlace} {l : List (DataW H)}
    (hk : Rows.uptoSmall H l = true) (hd : d ∈ l) (hval : Value.okWide Tryd.prog W r b0 25 v)
    (h : DataW.Trod enc Tryd.prog W base (fun _ => true) held 25 v d pl) :
    ∃ (p : Part), v = .agg #[.string p.id, .int .i64 p.size] ∧ In64 p.size ∧ p.id.size ≤ 1048576 := by
  have hb := bulk_at hk hd
  obtain ⟨cs, rfl, hsz⟩ := okWide_struct Tryd.underlying25 hval
  rw [show Tryd.prog.cellsOf 25 = 2 by kernel_rfl] at hsz
  obtain ⟨fuel, hf⟩ := h
  obtain ⟨y0, y1, n, hx, hl, g0, g1⟩ := trod_struct2 Tryd.underlying25 hf
  obtain ⟨c0, c1, rfl⟩ : ∃ c0 c1, cs = #[c0, c1] := by
    obtain ⟨cl⟩ := cs
    match cl, hsz with
    | [c0, c1], _ => exact ⟨c0, c1, rfl⟩
  have e0 : Tryd.prog.cellsOf 9 = 1 := by kernel_rfl
  have e1 : Tryd.prog.cellsOf 2 = 1 := by kernel_rfl
  simp [Value.cells, e0, e1] at g0 g1
  obtain ⟨s, k0, k1, _⟩ := DataW.trod_string Tryd.underlying9 g0
  obtain ⟨z, k2, k3, k4⟩ := DataW.trod_int Tryd.underlying2 g1
  refine ⟨⟨s, z⟩, by rw [show c0 = .string s by simpa using k0, show c1 = .int .i64 z by simpa using k2], in64_wf k4, ?_⟩
  rw [show d = .agg [y0.1, y1.1] from (Prod.mk.inj hx).1] at hb
  rw [k1, k3] at hb
  simp only [Rows.uptoBulk, Rows.uptoBulkAll] at hb
  have n0 : s.data.toList.length = s.size := by simp
  show s.size ≤ 1048576
  omega
end K
end Go.Proofs.YthgcjfpaekpeeaaDoor
/- What the statements on files have in common: who answers, the document's example. -/
namespace Go.Proofs.YthgcjfpaekpeeaaDoor
set_option linter.unusedVariables false
set_option linter.unusedSimpArgs false
open Go.RowKit K Wire Go.Maps
namespace Blob
open Go.Proofs.YthgcjfpaekpeeaaDoor.Obj

set_option maxRecDepth 100000 in
theorem from_mk (A : Option Addr) (n c : Nat) (w : World) : Calls Tryd.prog 17 #[.slice A n c] w fun e w' => e = .returned (.func (.func 36) #[] #[.pointer (some ⟨w.heap.size, 0, none⟩)]) ∧ w' = w.alloc (.cells #[.slice A n c] 26) := by
  go_enter Tryd.func17, Tryd.ntmps17
  go_wp2_with fail
  go_ret
  exact ⟨rfl, rfl⟩
set_option maxRecDepth 100000 in
theorem asked_mk (A : Option Addr) (n c b0 : Nat) (w : World) : Calls Tryd.prog 13 #[.slice A n c, .pointer (some ⟨b0, 0, none⟩)] w fun e w' => e = .returned (.func (.func 32) #[] #[.pointer (some ⟨w.heap.size + 1, 0, none⟩), .pointer (some ⟨w.heap.size, 0, none⟩)]) ∧
    w' = (w.alloc (.cells #[.slice A n c] 26)).alloc (.cells #[.pointer (some ⟨b0, 0, none⟩)] 37) := by
  go_enter Tryd.func13, Tryd.ntmps13
  go_wp2_with fail
  go_ret
  exact ⟨rfl, rfl⟩
theorem text_cell {w : World} {ba o : Nat} {ss : List ByteArray} (h : ∀ j u, (ss.map Value.string)[j]? = some u → w.cell? ⟨ba, o + j, none⟩ = some u) (k : Nat) (hk : k < ss.length) : w.cell? ⟨ba, o + k, none⟩ = some (.string ss[k]) := h k _ (by simp [hk])
set_option maxRecDepth 100000 in
set_option maxHeartbeats 1000000 in
theorem sameTexts_calls (A A' : Option Addr) (c c' : Nat) (ss : List ByteArray) (w : World) (hA : Cells w A (ss.map .string)) (hA' : Cells w A' (ss.map .string)) (hc : ss.length ≤ 100000000) :
    Calls Tryd.prog 15 #[.slice A ss.length c, .slice A' ss.length c'] w fun e w' => e = .returned (.bool true) ∧ Mod (fun _ => False) w w' := by
  have HA := Lib.hid hA
  have HA' := Lib.hid hA'
  clear hA hA'
  go_enter Tryd.func15, Tryd.ntmps15
  go_wp2_with fail
  go_loopw [5] (fun i wr => ∃ (k : Nat), i = .int .i64 k ∧ k ≤ ss.length ∧ Hid (Mod (fun _ => False) w wr)) (fun i _ => ss.length - (intOf i).toNat)
  case atStart => exact ⟨0, by go_num, by omega, Lib.hid (Mod.refl _ _)⟩
  case round =>
    obtain ⟨k, rfl, hk, HM⟩ := hrel
    by_cases hlt : k < ss.length
    · have i1 : (k : Int) < (ss.length : Int) := by omega
      have i0 : (0 : Int) ≤ (k : Int) := by omega
      rcases HA.out.keep HM.out (fun _ _ h => h) with h | ⟨ba, o, rfl, hcell⟩
      · have : ss = [] := by simpa using h
        subst this; simp at hlt
      rcases HA'.out.keep HM.out (fun _ _ h => h) with h | ⟨ba', o', rfl, hcell'⟩
      · have : ss = [] := by simpa using h
        subst this; simp at hlt
      have a0 := text_cell hcell k hlt
      have b0 := text_cell hcell' k hlt
      generalize ss[k] = p at *
      clear hcell hcell'
      go_wp2_with fail
      go_quiet (fail)
      go_wp2_with fail
      go_roundw
      case rel => exact ⟨k + 1, by go_num, by omega, Lib.hid (HM.out.drewN _)⟩
      case measure => simp [intOf]; omega
    · have i1 : ¬ (k : Int) < (ss.length : Int) := by omega
      go_wp2_with fail
      go_ret
      exact ⟨rfl, HM.out⟩

theorem cells_low {w : World} {A : Option Addr} {xs : List Value} (h : Cells w A xs) (hne : xs ≠ []) : ∀ ad, A = some ad → ad.block < w.heap.size := fun ad ha => by
  rcases h with h | ⟨b, o, rfl, hc⟩
  · exact absurd h hne
  · injection ha with ha
    subst ha
    obtain ⟨u, hu⟩ : ∃ u, xs[0]? = some u := by
      cases xs with
      | nil => exact absurd rfl hne
      | cons u l => exact ⟨u, rfl⟩
    exact World.block_lt_of_cell? w _ (hc 0 u hu)
/-! the document's example -/
def sB : List UInt8 := [115, 111, 109, 101, 32, 98, 121, 116, 101, 115]
theorem cuts_sB : cutsL sB = [10] := by decide +kernel
theorem pieces_sB : pieces sB 0 [10] = [sB] := by decide +kernel
theorem build_sB : buildR sB = (chunkPart sB, [chunkOb sB], 0) := by
  have h : buildL sB = (chunkPart sB, [chunkOb sB]) := by
    unfold buildL
    rw [cuts_sB, pieces_sB]
    simp only [List.map_cons, List.map_nil]
    rw [levels_one (by simp)]
    simp [keptL, keepL]
  unfold buildR
  rw [if_pos (by decide), h]
theorem node_sB : nodeOf [chunkOb sB] (chunkPart sB) (-1) = .chunk ⟨sB.toArray⟩ := by
  have hf : findL [chunkOb sB] (chunkPart sB).id = some ⟨(chunkB sB).toArray⟩ := by
    unfold findL
    rw [if_pos (show (chunkOb sB).id = (chunkPart sB).id from rfl)]
    rfl
  unfold nodeOf
  rw [hf]
  dsimp only
  have hc : okChunk ⟨(chunkB sB).toArray⟩ = true := by
    have h : ChunkP ⟨(chunkB sB).toArray⟩ := ⟨by decide, by decide, by decide⟩
    simpa [okChunk] using h
  unfold nodeB
  rw [if_pos hc, if_pos (by decide)]
  congr 1
theorem read_sB : readL [chunkOb sB] (chunkPart sB) 5 100 = ([98, 121, 116, 101, 115], [(chunkPart sB).id], 0) := by
  have h1 : rightP (chunkPart sB) = true := by
    have := sha_size (chunkB sB)
    have h2 : (chunkPart sB).id.size = 32 := this
    unfold rightP
    rw [h2]
    decide
  have h2 : rdR [chunkOb sB] 5 10 (chunkPart sB) ⟨[], [], [], 0⟩ = ⟨[(chunkPart sB).id], [], [98, 121, 116, 101, 115], 0⟩ := by
    unfold rdR
    rw [node_sB]
    rfl
  have h3 : (chunkPart sB).size = 10 := rfl
  unfold readL
  rw [if_pos ⟨h1, by decide, by decide⟩, if_pos ⟨by rw [h3]; decide, by decide⟩, h3]
  simp only [show ¬ ((100 : Int) < 10 - 5) by decide, if_false]
  rw [h2]
  rfl
theorem obs_sB : ObsOk [chunkOb sB] := ⟨by decide, fun o ho => by obtain rfl := List.mem_singleton.1 ho; decide⟩
set_option maxRecDepth 100000 in
set_option maxHeartbeats 4000000 in
theorem shown_calls (w : World) (hK : Hash.Keys w) : Calls Tryd.prog 7 #[] w fun e w' => e = .returned (.bool true) ∧ Mod (fun _ => False) w w' := by
  have hb := build_calls ⟨sB.toArray⟩ w hK (by decide)
  unfold BuildPost at hb
  rw [show (⟨sB.toArray⟩ : ByteArray).data.toList = sB from rfl, build_sB] at hb
  have hpid := sha_size (chunkB sB)
  have hrd := fun (w2 : World) (b2 : Nat) (A : Option Addr) (c : Nat) (hF : FromIs b2 b2 A c [chunkOb sB] w2) (hB : b2 ≤ w2.heap.size) => pRead_calls (fromG_ok b2 b2 A c [chunkOb sB]) obs_sB (chunkPart sB) 5 100 w2 hF hB (by unfold In64; omega) (by unfold In64; omega)
  unfold ReadPost at hrd
  rw [read_sB] at hrd
  dsimp only [fromG] at hrd
  simp only [show (chunkPart sB).size = 10 from rfl] at hb hrd
  obtain ⟨ID, hID⟩ : ∃ ID, (chunkPart sB).id = ID := ⟨_, rfl⟩
  rw [hID] at hb hrd
  have HB := Lib.hid hb
  have HRD := Lib.hid hrd
  clear hb hrd hpid
  go_enter Tryd.func7, Tryd.ntmps7
  go_wp2_with fail
  refine HB.out.mono ?_
  rintro e w1 ⟨v, rfl, ho, hm⟩
  obtain ⟨A1, c1, rfl, _, hcl, _, _⟩ := own_cells ho
  have hm2 := hm.alloc (.cells #[.string ID, .int .i64 10] 25)
  have hb1 := Has.new w1 [.string ID, .int .i64 10] 25
  have fv0 := fun (w' : World) (mm : Mod (fun k => w1.heap.size + 1 ≤ k) (w1.alloc (.cells #[.string ID, .int .i64 10] 25)).drew w') => (mm.cell (p := ⟨w1.heap.size, 0, none⟩) hb1.lt (by show ¬ w1.heap.size + 1 ≤ w1.heap.size; omega)).trans (hb1.cell (o := 0) rfl)
  have fv1 := fun (w' : World) (mm : Mod (fun k => w1.heap.size + 1 ≤ k) (w1.alloc (.cells #[.string ID, .int .i64 10] 25)).drew w') => (mm.cell (p := ⟨w1.heap.size, 1, none⟩) hb1.lt (by show ¬ w1.heap.size + 1 ≤ w1.heap.size; omega)).trans (hb1.cell (o := 1) rfl)
  have hF : FromIs (w1.heap.size + 1) (w1.heap.size + 1) A1 c1 [chunkOb sB] (((w1.alloc (.cells #[.string ID, .int .i64 10] 25)).drew).alloc (.cells #[.slice A1 [chunkOb sB].length c1] 26)) :=
    ⟨Has.lit (by simp), ((hcl.alloc _).keep ((Mod.refl (fun _ => False) _).drew) (fun _ _ h => h)).alloc _, fun hne ad ha => by have := cells_low hcl hne ad ha; omega, by decide⟩
  have HF := Lib.hid hF
  have HM2 := Lib.hid hm2
  have HB1 := Lib.hid hb1
  clear hF hm2 hm hcl ho hb1
  go_wp2_with fail
  refine region_mT (fun k => w1.heap.size + 1 ≤ k) (by kernel_rfl) ?_
  simp only [List.length_cons, List.length_nil, List.replicate]
  refine take0T (v := ?v1) (oi := ?o1) 0 ?hi1 (by kernel_rfl) (by kernel_rfl) (by kernel_rfl) ?hq1 ?hy1 ?_
  case hi1 => (simp only [List.getElem?_toArray, List.getElem?_cons_zero, List.getElem?_cons_succ]; rfl)
  case hq1 => exact fun _ _ _ h => h
  case hy1 => first | (refine ry_notS ?_; rfl) | (refine ry_runS (by rfl) (fun w' hw' => ?_); go_simp; try rfl)
  simp only [Act.put, List.setIfInBounds_toArray, List.set_cons_zero, List.set_cons_succ]
  refine take0T (v := ?v2) (oi := ?o2) 2 ?hi2 (by kernel_rfl) (by kernel_rfl) (by kernel_rfl) ?hq2 ?hy2 ?_
  case hi2 => (simp only [List.getElem?_toArray, List.getElem?_cons_zero, List.getElem?_cons_succ]; rfl)
  case hq2 => exact fun _ _ _ h => h
  case hy2 => first | (refine ry_notS ?_; rfl) | (refine ry_runS (by rfl) (fun w' hw' => ?_); go_simp; try rfl)
  simp only [Act.put, List.setIfInBounds_toArray, List.set_cons_zero, List.set_cons_succ]
  refine step0T (o := ?o3) 1 (by kernel_rfl) ?hi3 ?hw3 ?_
  case hi3 => (simp only [List.getElem?_toArray, List.getElem?_cons_zero, List.getElem?_cons_succ]; rfl)
  case hw3 => rfl
  go_simp
  refine (from_mk _ _ _ _).mono ?_
  rintro e w2 ⟨rfl, rfl⟩
  refine ⟨.inl (Mod.alloc (Mod.refl _ _) _), ?_⟩
  refine step0T (o := ?o4) 3 (by kernel_rfl) ?hi4 ?hw4 ?_
  case hi4 => (simp only [List.getElem?_toArray, List.getElem?_cons_zero, List.getElem?_cons_succ]; rfl)
  case hw4 => rfl
  go_simp
  refine (HRD.out _ _ _ _ HF.out (by simp)).mono ?_
  rintro e w3 ⟨rfl, _, hm3⟩
  refine ⟨.inl (hm3.mono fun k _ hk => hk.1), ?_⟩
  refine take0T (v := ?v5) (oi := ?o5) 4 ?hi5 (by kernel_rfl) (by kernel_rfl) (by kernel_rfl) ?hq5 ?hy5 ?_
  case hi5 => (simp only [List.getElem?_toArray, List.getElem?_cons_zero, List.getElem?_cons_succ]; rfl)
  case hq5 => exact fun _ _ _ h => h
  case hy5 => first | (refine ry_notS ?_; rfl) | (refine ry_runS (by rfl) (fun w' hw' => ?_); go_simp; try rfl)
  simp only [Act.put, List.setIfInBounds_toArray, List.set_cons_zero, List.set_cons_succ]
  refine take0T (v := ?v6) (oi := ?o6) 5 ?hi6 (by kernel_rfl) (by kernel_rfl) (by kernel_rfl) ?hq6 ?hy6 ?_
  case hi6 => (simp only [List.getElem?_toArray, List.getElem?_cons_zero, List.getElem?_cons_succ]; rfl)
  case hq6 => exact fun _ _ _ h => h
  case hy6 => first | (refine ry_notS ?_; rfl) | (refine ry_runS (by rfl) (fun w' hw' => ?_); go_simp; try rfl)
  simp only [Act.put, List.setIfInBounds_toArray, List.set_cons_zero, List.set_cons_succ]
  refine take0T (v := ?v7) (oi := ?o7) 6 ?hi7 (by kernel_rfl) (by kernel_rfl) (by kernel_rfl) ?hq7 ?hy7 ?_
  case hi7 => (simp only [List.getElem?_toArray, List.getElem?_cons_zero, List.getElem?_cons_succ]; rfl)
  case hq7 => exact fun _ _ _ h => h
  case hy7 => first | (refine ry_notS ?_; rfl) | (refine ry_runS (by rfl) (fun w' hw' => ?_); go_simp; try rfl)
  simp only [Act.put, List.setIfInBounds_toArray, List.set_cons_zero, List.set_cons_succ]
  refine take0T (v := ?v8) (oi := ?o8) 7 ?hi8 (by kernel_rfl) (by kernel_rfl) (by kernel_rfl) ?hq8 ?hy8 ?_
  case hi8 => (simp only [List.getElem?_toArray, List.getElem?_cons_zero, List.getElem?_cons_succ]; rfl)
  case hq8 => exact fun _ _ _ h => h
  case hy8 => first | (refine ry_notS ?_; rfl) | (refine ry_runS (by rfl) (fun w' hw' => ?_); go_simp; try rfl)
  simp only [Act.put, List.setIfInBounds_toArray, List.set_cons_zero, List.set_cons_succ]
  refine take0T (v := ?v9) (oi := ?o9) 8 ?hi9 (by kernel_rfl) (by kernel_rfl) (by kernel_rfl) ?hq9 ?hy9 ?_
  case hi9 => (simp only [List.getElem?_toArray, List.getElem?_cons_zero, List.getElem?_cons_succ]; rfl)
  case hq9 => exact fun _ _ _ h => h
  case hy9 => first | (refine ry_notS ?_; rfl) | (refine ry_runS (by rfl) (fun w' hw' => ?_); go_simp; try rfl)
  simp only [Act.put, List.setIfInBounds_toArray, List.set_cons_zero, List.set_cons_succ]
  refine wpAnyT_done (by kernel_rfl) ?_
  clear fv0 fv1
  have hm4 : Mod (fun k => w1.heap.size + 1 ≤ k) (w1.alloc (.cells #[.string ID, .int .i64 10] 25)) w3 := Mod.trans (((Mod.refl _ _).drew).alloc _) (hm3.mono fun k _ hk => hk.1) (fun _ _ h => h)
  have hb4 := HB1.out.keep hm4 (by show ¬ w1.heap.size + 1 ≤ w1.heap.size; omega)
  have q1 := hb4.cell (o := 1) rfl
  have HM4 := Lib.hid (Mod.trans HM2.out hm4 (fun i hi h => by have := HM2.out.size; simp at this; omega))
  clear hm3 hm4 hb4
  go_wp2_with fail
  go_ret
  exact ⟨rfl, HM4.out⟩
end Blob
end Go.Proofs.YthgcjfpaekpeeaaDoor
