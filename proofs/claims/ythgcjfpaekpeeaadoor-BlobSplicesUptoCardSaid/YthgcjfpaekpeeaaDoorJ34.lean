/- Joined texts: BlobQ. -/
import Derived.Test.YthgcjfpaekpeeaaDoorJ33
/- The walk of the asker's node. -/
namespace Go.Proofs.YthgcjfpaekpeeaaDoor
set_option linter.unusedVariables false
set_option linter.unusedSimpArgs false
open Go.RowKit K Wire Go.Maps
namespace Blob
open Go.Proofs.YthgcjfpaekpeeaaDoor.Obj

def ndS : Node → ByteArray | .chunk s => s | _ => ⟨#[]⟩
def ndL : Node → Int | .fan L _ => L | _ => 0
def ndK : Node → List Part | .fan _ k => k | _ => []
def ndE : Node → Int | .bad e => e | _ => 0
structure ObsOk (objs : List Ob) : Prop where
  many : objs.length ≤ 100000000
  small : ∀ o ∈ objs, o.bytes.size ≤ 100000000
theorem findL_mem {objs : List Ob} {id b : ByteArray} : findL objs id = some b → ∃ o ∈ objs, o.bytes = b := by
  induction objs with
  | nil => intro h; cases h
  | cons o l ih =>
    intro h
    unfold findL at h
    split at h
    · injection h with h; exact ⟨o, List.mem_cons_self .., h⟩
    · obtain ⟨x, hx, hb⟩ := ih h; exact ⟨x, List.mem_cons_of_mem _ hx, hb⟩
theorem Q.not {B : Nat} {w : World} {k : Nat} {cs : List Value} {T : TypeId} (h : Has w k cs T) (h0 : T ≠ 9) (h1 : T ≠ 32) : ¬ Q B w k := by
  rintro ⟨_, cur, fr, T', h2, h3⟩
  unfold Has at h
  rw [h] at h2
  injection h2 with h2
  injection h2 with _ h2
  subst h2
  rcases h3 with h3 | h3
  · exact h0 h3
  · exact h1 h3
theorem Q.new {B : Nat} {w : World} {k : Nat} (h : w.heap.size ≤ k) : ¬ Q B w k := by
  rintro ⟨_, cur, fr, T', h2, h3⟩
  have := (Array.getElem?_eq_some_iff.1 h2).1
  omega
theorem Q.after {B : Nat} {w w2 w3 : World} (h : Mod (fun _ => False) w w2) (k : Mod (Q B w2) w2 w3) : Mod (Q B w) w w3 :=
  Mod.trans (h.mono fun _ _ h => h.elim) k (fun i hi hs => by
    obtain ⟨hb, cur, fr, T, h1, h2⟩ := hs
    rw [h.block i hi (fun h => h)] at h1
    exact ⟨hb, cur, fr, T, h1, h2⟩)
theorem outFan_facts (L : List UInt8) : (outFan L).2.length ≤ 32 ∧ ∀ k ∈ (outFan L).2, 1 ≤ k.size ∧ k.size ≤ 262144 := by
  unfold outFan
  split
  · rename_i h
    have hr := (fan_sound L h).2
    simp only [rightFan, inR, Bool.and_eq_true, decide_eq_true_eq] at hr
    obtain ⟨⟨⟨⟨a1, a2⟩, a3, a4⟩, a5⟩, a6⟩ := hr
    refine ⟨by simp only; omega, fun k hk => ?_⟩
    have := List.all_eq_true.1 a5 k hk
    simp only [partOk, inR, Bool.and_eq_true, decide_eq_true_eq] at this
    omega
  · exact ⟨by simp, fun k hk => by cases hk⟩
theorem sizes_take {l : List Part} (h : ∀ k ∈ l, 1 ≤ k.size ∧ k.size ≤ 262144) : ∀ j, 0 ≤ sizes (l.take j) ∧ sizes (l.take j) ≤ 262144 * (l.length : Int) := by
  have h1 : ∀ l' : List Part, (∀ k ∈ l', 1 ≤ k.size ∧ k.size ≤ 262144) → 0 ≤ sizes l' ∧ sizes l' ≤ 262144 * (l'.length : Int) := by
    intro l'
    induction l' with
    | nil => intro _; simp [sizes]
    | cons a l' ih =>
      intro h
      have h1 := ih (fun k hk => h k (List.mem_cons_of_mem _ hk))
      have h2 := h a (List.mem_cons_self ..)
      have e : sizes (a :: l') = a.size + sizes l' := by simp [sizes]
      simp only [List.length_cons]; omega
  intro j
  have := h1 (l.take j) (fun k hk => h k (List.mem_of_mem_take hk))
  rw [List.length_take] at this
  omega
theorem sizes_snoc {l : List Part} {j : Nat} (h : j < l.length) : sizes (l.take (j + 1)) = sizes (l.take j) + (l[j]).size := by
  rw [List.take_succ_eq_append_getElem h, sizes_append]; simp [sizes]
theorem node_end {G : Gt} {objs : List Ob} (ok : GtOk G objs) {a : List ByteArray} {w w4 : World} (hB : G.B ≤ w.heap.size) (hI : G.I a w4) (hq : Mod (Q G.B w) w w4) {x y : Value} (hb : Has w4 (w.heap.size + 1 + 1) [x, y] 96) (u v : Value) :
    G.I a ((w4.setCell ⟨w.heap.size + 1 + 1, 0, none⟩ u).setCell ⟨w.heap.size + 1 + 1, 1, none⟩ v) ∧ Mod (Q G.B w) w ((w4.setCell ⟨w.heap.size + 1 + 1, 0, none⟩ u).setCell ⟨w.heap.size + 1 + 1, 1, none⟩ v) ∧
      ((w4.setCell ⟨w.heap.size + 1 + 1, 0, none⟩ u).setCell ⟨w.heap.size + 1 + 1, 1, none⟩ v).cell? ⟨w.heap.size + 1 + 1, 0, none⟩ = some u ∧ ((w4.setCell ⟨w.heap.size + 1 + 1, 0, none⟩ u).setCell ⟨w.heap.size + 1 + 1, 1, none⟩ v).cell? ⟨w.heap.size + 1 + 1, 1, none⟩ = some v := by
  refine ⟨?_, ?_, ((hb.set 0 u).set 1 v).cell (o := 0) rfl, ((hb.set 0 u).set 1 v).cell (o := 1) rfl⟩
  · refine ok.keep _ _ _ _ hI (((Mod.refl (fun k => k = w.heap.size + 1 + 1) w4).set1 rfl 0 u).set1 rfl 1 v) (fun k hk h => ?_)
    subst h
    exact R.not ⟨_, _, hb⟩ (by omega) (by decide) (by decide) (by decide) (by decide) hk
  · exact (hq.setCell (p := ⟨w.heap.size + 1 + 1, 0, none⟩) (.inr (by show w.heap.size ≤ w.heap.size + 1 + 1; omega)) u).setCell (p := ⟨w.heap.size + 1 + 1, 1, none⟩) (.inr (by show w.heap.size ≤ w.heap.size + 1 + 1; omega)) v
def NodePost (G : Gt) (a : List ByteArray) (p : Part) (n : Node) (w : World) (e : Ending) (w' : World) : Prop :=
  ∃ v, e = .returned (.tuple #[.string (ndS n), .agg #[.int .i64 (ndL n), v], .int .i64 (ndE n)]) ∧ w'.ownsRow w.heap.size 25 2 v (ndK n).length ((ndK n).flatMap pc) ∧ G.I (a ++ [p.id]) w' ∧ Mod (Q G.B w) w w'

set_option maxRecDepth 100000 in
set_option maxHeartbeats 8000000 in
theorem node_calls {G : Gt} {objs : List Ob} (ok : GtOk G objs) (hob : ObsOk objs) (p : Part) (level : Int) (a : List ByteArray) (w : World) (hI : G.I a w) (ha : a.length ≤ 1000000000) (hp : 0 ≤ p.size ∧ p.size ≤ 262144) (hlv : -1 ≤ level ∧ level ≤ 20) (hB : G.B ≤ w.heap.size) :
    Calls Tryd.prog 50 #[.agg #[.func (.func G.ks) #[] G.caps], .agg #[.string p.id, .int .i64 p.size], .int .i64 level] w (NodePost G a p (nodeOf objs p level) w) := by
  have hm2 := (((Mod.refl (fun _ => False) w).alloc (.cells #[.func (.func G.ks) #[] G.caps] 71)).alloc (.cells #[.string p.id, .int .i64 p.size] 25)).alloc (.cells #[.int .i64 0, .slice none 0 0] 96)
  have hbp : Has (((w.alloc (.cells #[.func (.func G.ks) #[] G.caps] 71)).alloc (.cells #[.string p.id, .int .i64 p.size] 25)).alloc (.cells #[.int .i64 0, .slice none 0 0] 96)) (w.heap.size + 1) [.string p.id, .int .i64 p.size] 25 := (Has.lit (by simp)).alloc _
  have hbf : Has (((w.alloc (.cells #[.func (.func G.ks) #[] G.caps] 71)).alloc (.cells #[.string p.id, .int .i64 p.size] 25)).alloc (.cells #[.int .i64 0, .slice none 0 0] 96)) (w.heap.size + 1 + 1) [.int .i64 0, .slice none 0 0] 96 := Has.lit (by simp)
  have hI2 := ok.keep _ _ _ _ hI hm2 (fun _ _ h => h)
  have HCL := Lib.hid (ok.call _ _ p.id hI2 ha)
  have he := fun w' => ok.enter w' p.id
  have HBP := Lib.hid hbp
  have HBF := Lib.hid hbf
  have HM2 := Lib.hid hm2
  obtain ⟨NN, hNN⟩ : ∃ NN, nodeOf objs p level = NN := ⟨_, rfl⟩
  rw [hNN]
  have HNN := Lib.hid hNN
  unfold NodePost
  clear hI hm2 hbp hbf hI2 hNN
  go_enter Tryd.func50, Tryd.ntmps50
  go_wp2_with fail
  refine HCL.out.mono ?_
  rintro e w3 ⟨rfl, hI3, hm3⟩
  have hqa := Q.after HM2.out hm3
  have hbp3 := HBP.out.keep hm3 (Q.not HBP.out (by decide) (by decide))
  have hbf3 := HBF.out.keep hm3 (Q.not HBF.out (by decide) (by decide))
  have hz3 : w.heap.size + 2 < w3.heap.size := hbf3.lt
  have q1 := hbp3.cell (o := 1) rfl
  have f0 := hbf3.frozen 0
  have f1 := hbf3.frozen 1
  have c0 := hbf3.cell (o := 0) rfl
  have c1 := hbf3.cell (o := 1) rfl
  have HI3 := Lib.hid hI3
  have HQ3 := Lib.hid hqa
  have HBF3 := Lib.hid hbf3
  have HBP3 := Lib.hid hbp3
  clear hI3 hqa hbp3 hm3 HCL he hbf3
  cases hf : findL objs p.id with
  | none =>
    have hn : NN = .bad 3 := by rw [← HNN.out]; unfold nodeOf; rw [hf]
    subst hn
    simp only [show gotE none = 3 from rfl, show gotB none = ⟨#[]⟩ from rfl]
    obtain ⟨E1, E2, z0, z1⟩ := node_end ok hB HI3.out HQ3.out HBF3.out (.int .i64 0) (.slice none 0 0)
    have HE1 := Lib.hid E1
    have HE2 := Lib.hid E2
    clear E1 E2
    go_wp2_with fail
    skip
    refine bodyPost_ret (v := .tuple #[.string ⟨#[]⟩, .agg #[.int .i64 0, (.slice none 0 0)], .int .i64 3]) (by simp [results, Tryd.results50, go_sem, z0, z1]) rfl ⟨_, rfl, World.ownsRow_nil _ _ _ _, HE1.out, HE2.out⟩
  | some b =>
    have hbs : b.size ≤ 100000000 := by obtain ⟨o, ho, hb⟩ := findL_mem hf; rw [← hb]; exact hob.small o ho
    have hn : NN = nodeB b p level := by rw [← HNN.out]; unfold nodeOf; rw [hf]
    simp only [show gotE (some b) = 0 from rfl, show gotB (some b) = b from rfl]
    clear HNN
    have HTC := Lib.hid (takeChunk_calls b w3 hbs)
    have HTF := Lib.hid (fun w1 => takeFan_calls b w1 hbs)
    go_wp2_with fail
    refine HTC.out.mono ?_
    rintro e w4 ⟨rfl, hm4⟩
    unfold chunkT errV
    have hbf4 := HBF3.out.keep hm4 (fun h => h)
    have hbp4 := HBP3.out.keep hm4 (fun h => h)
    have HI4 := Lib.hid (ok.keep _ _ _ _ HI3.out hm4 (fun _ _ h => h))
    have HQ4 := Lib.hid (Mod.trans HQ3.out hm4 (fun _ _ h => h.elim))
    clear q1 f0 f1 c0 c1
    have q1 := hbp4.cell (o := 1) rfl
    have f0 := hbf4.frozen 0
    have f1 := hbf4.frozen 1
    have c0 := hbf4.cell (o := 0) rfl
    have c1 := hbf4.cell (o := 1) rfl
    have HBF4 := Lib.hid hbf4
    have HBP4 := Lib.hid hbp4
    clear hm4 hbf4 hbp4 HTC
    cases hc : okChunk b with
    | true =>
      unfold nodeB at hn
      rw [if_pos hc] at hn
      have hb1 : 1 ≤ b.size := by
        have h2 : ChunkP b := by simpa [okChunk] using hc
        obtain ⟨h, _⟩ := h2; omega
      obtain ⟨S, hS⟩ : ∃ S, b.extract 1 b.size = S := ⟨_, rfl⟩
      have hsx : (S.size : Int) = (b.size : Int) - 1 := by rw [← hS, ByteArray.size_extract]; omega
      simp only [if_true, hS]
      rw [hS, ← hsx] at hn
      clear hS hc hsx
      by_cases h1 : (S.size : Int) = p.size
      · have b1 : ((S.size : Int) == p.size) = true := by simpa using h1
        have b2 : ((S.size : Int) != p.size) = false := by simpa using h1
        by_cases h2 : level ≤ 0
        · rw [if_pos ⟨h1, h2⟩] at hn
          subst hn
          have h3 : ¬ 0 < level := by omega
          clear h1
          obtain ⟨E1, E2, z0, z1⟩ := node_end ok hB HI4.out HQ4.out HBF4.out (.int .i64 0) (.slice none 0 0)
          have HE1 := Lib.hid E1
          have HE2 := Lib.hid E2
          clear E1 E2
          go_wp2_with fail
          skip
          refine bodyPost_ret (v := .tuple #[.string S, .agg #[.int .i64 0, (.slice none 0 0)], .int .i64 0]) (by simp [results, Tryd.results50, go_sem, z0, z1]) rfl ⟨_, rfl, World.ownsRow_nil _ _ _ _, HE1.out, HE2.out⟩
        · rw [if_neg (fun h => h2 h.2)] at hn
          subst hn
          have h3 : 0 < level := by omega
          clear h1
          obtain ⟨E1, E2, z0, z1⟩ := node_end ok hB HI4.out HQ4.out HBF4.out (.int .i64 0) (.slice none 0 0)
          have HE1 := Lib.hid E1
          have HE2 := Lib.hid E2
          clear E1 E2
          go_wp2_with fail
          skip
          refine bodyPost_ret (v := .tuple #[.string ⟨#[]⟩, .agg #[.int .i64 0, (.slice none 0 0)], .int .i64 101]) (by simp [results, Tryd.results50, go_sem, z0, z1]) rfl ⟨_, rfl, World.ownsRow_nil _ _ _ _, HE1.out, HE2.out⟩
      · have b1 : ((S.size : Int) == p.size) = false := by simpa using h1
        have b2 : ((S.size : Int) != p.size) = true := by simpa using h1
        rw [if_neg (fun h => h1 h.1)] at hn
        subst hn
        clear h1
        obtain ⟨E1, E2, z0, z1⟩ := node_end ok hB HI4.out HQ4.out HBF4.out (.int .i64 0) (.slice none 0 0)
        have HE1 := Lib.hid E1
        have HE2 := Lib.hid E2
        clear E1 E2
        go_wp2_with fail
        skip
        refine bodyPost_ret (v := .tuple #[.string ⟨#[]⟩, .agg #[.int .i64 0, (.slice none 0 0)], .int .i64 101]) (by simp [results, Tryd.results50, go_sem, z0, z1]) rfl ⟨_, rfl, World.ownsRow_nil _ _ _ _, HE1.out, HE2.out⟩
    | false =>
      unfold nodeB at hn
      rw [if_neg (by rw [hc]; decide)] at hn
      simp only [if_false, Bool.false_eq_true]
      go_wp2_with fail
      refine (HTF.out _).mono ?_
      rintro e w5 ⟨v, rfl, hv, hm5⟩
      have hof := outFan_facts b.data.toList
      have hfz : okFan b.data.toList = false → outFan b.data.toList = (0, []) := fun h => by unfold outFan; rw [if_neg (by rw [h]; decide)]
      obtain ⟨F, hF⟩ : ∃ F, okFan b.data.toList = F := ⟨_, rfl⟩
      obtain ⟨O, hO⟩ : ∃ O, outFan b.data.toList = O := ⟨_, rfl⟩
      obtain ⟨L, kids⟩ := O
      rw [hF, hO] at hn hfz
      rw [hO] at hof hv
      simp only [hF, hO]
      dsimp only at hn hof hv ⊢
      obtain ⟨Ak, ck, rfl, _, hck, _, _⟩ := own_cells hv
      have hbf5 := HBF4.out.keep hm5 (fun h => h)
      have hbp5 := HBP4.out.keep hm5 (fun h => h)
      have hI5 := ok.keep _ _ _ _ HI4.out hm5 (fun _ _ h => h)
      have hq5 := Mod.trans HQ4.out hm5 (fun _ _ h => h.elim)
      have hb13 := Has.new w5 [.int .i64 L, .slice Ak kids.length ck] 96
      have hm6 := (Mod.refl (fun _ => False) w5).alloc (.cells #[.int .i64 L, .slice Ak kids.length ck] 96)
      have hzs := Mod.size HQ3.out
      have HV := Lib.hid (own_base (own_keep hv hm6 (fun _ _ _ h => h)) (show w.heap.size ≤ w4.heap.size from HQ4.out.size))
      have HCK := Lib.hid (hck.keep hm6 (fun _ _ h => h))
      have HBF6 := Lib.hid (hbf5.keep hm6 (fun h => h))
      have HBP6 := Lib.hid (hbp5.keep hm6 (fun h => h))
      have HI6 := Lib.hid (ok.keep _ _ _ _ hI5 hm6 (fun _ _ h => h))
      have HQ6 := Lib.hid (Mod.trans hq5 hm6 (fun _ _ h => h.elim))
      have HB13 := Lib.hid hb13
      have HN := Lib.hid hn
      have HFZ := Lib.hid hfz
      have HOF := Lib.hid hof
      have y1 := hb13.cell (o := 1) rfl
      clear q1 f0 f1 c0 c1 hbf5 hbp5 hI5 hq5 hb13 hm6 hck hv hn hfz hof hF hO hm5 HTF HI3 HQ3 HBF3 HBP3 HI4 HQ4 HBF4 HBP4
      have hkl : kids.length ≤ 32 := HOF.out.1
      go_wp2_with fail
      go_loopw [14, 56] (fun sm i wr => ∃ (j : Nat) (z : Int), i = .int .i64 j ∧ sm = .int .i64 z ∧ j ≤ kids.length ∧ Hid (z = sizes (kids.take j)) ∧ Hid (Mod (fun _ => False) (w5.alloc (.cells #[.int .i64 L, .slice Ak kids.length ck] 96)) wr)) (fun _ i _ => kids.length - (intOf i).toNat)
      case atStart => exact ⟨0, 0, by go_num, rfl, by omega, Lib.hid (by simp [sizes]), Lib.hid (Mod.refl _ _)⟩
      case round =>
        obtain ⟨j, z, rfl, rfl, hj, HZ, HMR⟩ := hrel
        by_cases hjl : j < kids.length
        · have j1 : (j : Int) < (kids.length : Int) := by omega
          have j0 : (0 : Int) ≤ (j : Int) := by omega
          rcases HCK.out.keep HMR.out (fun _ _ h => h) with h | ⟨bb, b5, rfl, hc5⟩
          · have := flat_len pc_len kids; rw [h] at this; simp at this; omega
          have z0 := hc5 _ _ (flat_get pc_len kids j 0 hjl (by omega))
          have z1 := hc5 _ _ (flat_get pc_len kids j 1 hjl (by omega))
          rw [Nat.add_zero] at z0
          rw [← Nat.add_assoc] at z1
          have hst := sizes_snoc hjl
          rw [← HZ.out] at hst
          have hs0 := sizes_take HOF.out.2 j
          have hs1 := sizes_take HOF.out.2 (j + 1)
          rw [hst] at hs1
          rw [← HZ.out] at hs0
          obtain ⟨k, hk⟩ : ∃ k, kids[j] = k := ⟨_, rfl⟩
          rw [hk] at z0 z1 hst hs1
          have HST := Lib.hid hst
          clear hc5 hst hk
          go_wp2_with fail
          go_roundw
          case rel => exact ⟨j + 1, z + k.size, by go_num, rfl, by omega, Lib.hid HST.out.symm, Lib.hid (HMR.out.alloc _)⟩
          case measure => simp [intOf]; omega
        · have hjk : j = kids.length := by omega
          have j1 : ¬ (j : Int) < (kids.length : Int) := by omega
          have hz := HZ.out
          rw [hjk, List.take_length] at hz
          have hn := HN.out
          have HI7 := Lib.hid (ok.keep _ _ _ _ HI6.out HMR.out (fun _ _ h => h))
          have HQ7 := Lib.hid (Mod.trans HQ6.out HMR.out (fun _ _ h => h.elim))
          have hbf7 := HBF6.out.keep HMR.out (fun h => h)
          have hbp7 := HBP6.out.keep HMR.out (fun h => h)
          have hb137 := HB13.out.keep HMR.out (fun h => h)
          have q1 := hbp7.cell (o := 1) rfl
          have f0 := hbf7.frozen 0
          have f1 := hbf7.frozen 1
          have c0 := hbf7.cell (o := 0) rfl
          have c1 := hbf7.cell (o := 1) rfl
          have d0 := hb137.cell (o := 0) rfl
          have d1 := hb137.cell (o := 1) rfl
          have hv7 := own_keep HV.out HMR.out (fun _ _ _ h => h)
          have HBF7 := Lib.hid hbf7
          have HB137 := Lib.hid hb137
          have HV7 := Lib.hid hv7
          clear hbf7 hbp7 hb137 hv7 y1
          have hsz : sizes kids = (kids.map (·.size)).sum := rfl
          rw [← hsz, ← hz] at hn
          clear hsz hz HZ
          cases F with
          | false =>
            rw [if_neg (fun h => by cases h.1)] at hn
            subst hn
            simp only [show errV false = Value.int .i64 81 from rfl]
            obtain ⟨E1, E2, z0, z1⟩ := node_end ok hB HI7.out HQ7.out HBF7.out (.int .i64 0) (.slice none 0 0)
            have HE1 := Lib.hid E1
            have HE2 := Lib.hid E2
            clear E1 E2
            go_wp2_with fail
            skip
            refine bodyPost_ret (v := .tuple #[.string ⟨#[]⟩, .agg #[.int .i64 0, (.slice none 0 0)], .int .i64 101]) (by simp [results, Tryd.results50, go_sem, z0, z1]) rfl ⟨_, rfl, World.ownsRow_nil _ _ _ _, HE1.out, HE2.out⟩
          | true =>
            simp only [show errV true = Value.int .i64 0 from rfl]
            by_cases h1 : z = p.size
            · have b1 : (z == p.size) = true := by simpa using h1
              have b2 : (z != p.size) = false := by simpa using h1
              by_cases h2 : level < 0
              · have h3 : ¬ 0 ≤ level := by omega
                rw [if_pos ⟨rfl, h1, .inl h2⟩] at hn
                subst hn
                clear h1
                have fvd0 := fun (w' : World) (mm : Mod0 wr.drew w') => ((Mod.of_drew_l mm).cell (p := ⟨w5.heap.size, 0, none⟩) HB137.out.lt (fun h => h)).trans d0
                have fvd1 := fun (w' : World) (mm : Mod0 wr.drew w') => ((Mod.of_drew_l mm).cell (p := ⟨w5.heap.size, 1, none⟩) HB137.out.lt (fun h => h)).trans d1
                go_wp2_with fail
                refine region_mT (fun _ => False) (by kernel_rfl) ?_
                simp only [List.length_cons, List.length_nil, List.replicate]
                refine take0T (v := ?v1) (oi := ?o1) 0 ?hi1 (by kernel_rfl) (by kernel_rfl) (by kernel_rfl) ?hq1 ?hy1 ?_
                case hi1 => (simp only [List.getElem?_toArray, List.getElem?_cons_zero, List.getElem?_cons_succ]; rfl)
                case hq1 => exact fun _ _ _ h => h
                case hy1 => first | (refine ry_notS ?_; rfl) | (refine ry_runS (by rfl) (fun w' hw' => ?_); go_simp; try rfl)
                simp only [Act.put, List.setIfInBounds_toArray, List.set_cons_zero, List.set_cons_succ]
                refine take0T (v := ?v2) (oi := ?o2) 1 ?hi2 (by kernel_rfl) (by kernel_rfl) (by kernel_rfl) ?hq2 ?hy2 ?_
                case hi2 => (simp only [List.getElem?_toArray, List.getElem?_cons_zero, List.getElem?_cons_succ]; rfl)
                case hq2 => exact fun _ _ _ h => h
                case hy2 => first | (refine ry_notS ?_; rfl) | (refine ry_runS (by rfl) (fun w' hw' => ?_); go_simp; try rfl)
                simp only [Act.put, List.setIfInBounds_toArray, List.set_cons_zero, List.set_cons_succ]
                refine step0T (o := ?o3) 2 (by kernel_rfl) ?hi3 ?hw3 ?_
                case hi3 => (simp only [List.getElem?_toArray, List.getElem?_cons_zero, List.getElem?_cons_succ]; rfl)
                case hw3 => rfl
                go_simp
                refine ⟨.inr (by kernel_rfl), ?_⟩
                refine take0T (v := ?v4) (oi := ?o4) 3 ?hi4 (by kernel_rfl) (by kernel_rfl) (by kernel_rfl) ?hq4 ?hy4 ?_
                case hi4 => (simp only [List.getElem?_toArray, List.getElem?_cons_zero, List.getElem?_cons_succ]; rfl)
                case hq4 => exact fun _ _ _ h => h
                case hy4 => first | (refine ry_notS ?_; rfl) | (refine ry_runS (by rfl) (fun w' hw' => ?_); go_simp; try rfl)
                simp only [Act.put, List.setIfInBounds_toArray, List.set_cons_zero, List.set_cons_succ]
                refine wpAnyT_done (by kernel_rfl) ?_
                clear fvd0 fvd1 d0 d1
                obtain ⟨E1, E2, z0, z1⟩ := node_end ok hB (ok.keep _ _ _ _ HI7.out ((Mod.refl (fun _ => False) wr).drew) (fun _ _ h => h)) HQ7.out.drew HBF7.out.drew (.int .i64 L) (.slice Ak kids.length ck)
                have z2 := (HBF7.out.set 0 (.int .i64 L)).cell (o := 0) rfl
                have z3 := ((HBF7.out.set 0 (.int .i64 L)).set 1 (.slice Ak kids.length ck)).cell (o := 1) rfl
                have hv8 := own_keep HV7.out ((((Mod.refl (fun k => k = w.heap.size + 1 + 1) wr).drew).set1 rfl 0 (.int .i64 L)).set1 rfl 1 (.slice Ak kids.length ck)) (fun k _ hk h => by
                  subst h
                  exact absurd rfl (has_ne HBF7.out (own_row HV7.out hk) (by decide)))
                go_wp2_with fail
                refine bodyPost_ret (v := .tuple #[.string ⟨#[]⟩, .agg #[.int .i64 L, .slice Ak kids.length ck], .int .i64 0]) (by simp [results, Tryd.results50, go_sem, z2, z3]) rfl ⟨_, rfl, hv8, E1, E2⟩
              · have h3 : 0 ≤ level := by omega
                by_cases h4 : L = level
                · have b3 : (L == level) = true := by simpa using h4
                  have b4 : (L != level) = false := by simpa using h4
                  rw [if_pos ⟨rfl, h1, .inr h4⟩] at hn
                  subst hn
                  clear h1 h4
                  have fvd0 := fun (w' : World) (mm : Mod0 wr.drew w') => ((Mod.of_drew_l mm).cell (p := ⟨w5.heap.size, 0, none⟩) HB137.out.lt (fun h => h)).trans d0
                  have fvd1 := fun (w' : World) (mm : Mod0 wr.drew w') => ((Mod.of_drew_l mm).cell (p := ⟨w5.heap.size, 1, none⟩) HB137.out.lt (fun h => h)).trans d1
                  go_wp2_with fail
                  refine region_mT (fun _ => False) (by kernel_rfl) ?_
                  simp only [List.length_cons, List.length_nil, List.replicate]
                  refine take0T (v := ?v5) (oi := ?o5) 0 ?hi5 (by kernel_rfl) (by kernel_rfl) (by kernel_rfl) ?hq5 ?hy5 ?_
                  case hi5 => (simp only [List.getElem?_toArray, List.getElem?_cons_zero, List.getElem?_cons_succ]; rfl)
                  case hq5 => exact fun _ _ _ h => h
                  case hy5 => first | (refine ry_notS ?_; rfl) | (refine ry_runS (by rfl) (fun w' hw' => ?_); go_simp; try rfl)
                  simp only [Act.put, List.setIfInBounds_toArray, List.set_cons_zero, List.set_cons_succ]
                  refine take0T (v := ?v6) (oi := ?o6) 1 ?hi6 (by kernel_rfl) (by kernel_rfl) (by kernel_rfl) ?hq6 ?hy6 ?_
                  case hi6 => (simp only [List.getElem?_toArray, List.getElem?_cons_zero, List.getElem?_cons_succ]; rfl)
                  case hq6 => exact fun _ _ _ h => h
                  case hy6 => first | (refine ry_notS ?_; rfl) | (refine ry_runS (by rfl) (fun w' hw' => ?_); go_simp; try rfl)
                  simp only [Act.put, List.setIfInBounds_toArray, List.set_cons_zero, List.set_cons_succ]
                  refine step0T (o := ?o7) 2 (by kernel_rfl) ?hi7 ?hw7 ?_
                  case hi7 => (simp only [List.getElem?_toArray, List.getElem?_cons_zero, List.getElem?_cons_succ]; rfl)
                  case hw7 => rfl
                  go_simp
                  refine ⟨.inr (by kernel_rfl), ?_⟩
                  refine take0T (v := ?v8) (oi := ?o8) 3 ?hi8 (by kernel_rfl) (by kernel_rfl) (by kernel_rfl) ?hq8 ?hy8 ?_
                  case hi8 => (simp only [List.getElem?_toArray, List.getElem?_cons_zero, List.getElem?_cons_succ]; rfl)
                  case hq8 => exact fun _ _ _ h => h
                  case hy8 => first | (refine ry_notS ?_; rfl) | (refine ry_runS (by rfl) (fun w' hw' => ?_); go_simp; try rfl)
                  simp only [Act.put, List.setIfInBounds_toArray, List.set_cons_zero, List.set_cons_succ]
                  refine wpAnyT_done (by kernel_rfl) ?_
                  clear fvd0 fvd1 d0 d1
                  obtain ⟨E1, E2, z0, z1⟩ := node_end ok hB (ok.keep _ _ _ _ HI7.out ((Mod.refl (fun _ => False) wr).drew) (fun _ _ h => h)) HQ7.out.drew HBF7.out.drew (.int .i64 L) (.slice Ak kids.length ck)
                  have z2 := (HBF7.out.set 0 (.int .i64 L)).cell (o := 0) rfl
                  have z3 := ((HBF7.out.set 0 (.int .i64 L)).set 1 (.slice Ak kids.length ck)).cell (o := 1) rfl
                  have hv8 := own_keep HV7.out ((((Mod.refl (fun k => k = w.heap.size + 1 + 1) wr).drew).set1 rfl 0 (.int .i64 L)).set1 rfl 1 (.slice Ak kids.length ck)) (fun k _ hk h => by
                    subst h
                    exact absurd rfl (has_ne HBF7.out (own_row HV7.out hk) (by decide)))
                  go_wp2_with fail
                  refine bodyPost_ret (v := .tuple #[.string ⟨#[]⟩, .agg #[.int .i64 L, .slice Ak kids.length ck], .int .i64 0]) (by simp [results, Tryd.results50, go_sem, z2, z3]) rfl ⟨_, rfl, hv8, E1, E2⟩
                · have b3 : (L == level) = false := by simpa using h4
                  have b4 : (L != level) = true := by simpa using h4
                  rw [if_neg (fun h => by rcases h.2.2 with h | h; omega; exact h4 h)] at hn
                  subst hn
                  clear h1 h4
                  obtain ⟨E1, E2, z0, z1⟩ := node_end ok hB HI7.out HQ7.out HBF7.out (.int .i64 0) (.slice none 0 0)
                  have HE1 := Lib.hid E1
                  have HE2 := Lib.hid E2
                  clear E1 E2
                  go_wp2_with fail
                  skip
                  refine bodyPost_ret (v := .tuple #[.string ⟨#[]⟩, .agg #[.int .i64 0, (.slice none 0 0)], .int .i64 101]) (by simp [results, Tryd.results50, go_sem, z0, z1]) rfl ⟨_, rfl, World.ownsRow_nil _ _ _ _, HE1.out, HE2.out⟩
            · have b1 : (z == p.size) = false := by simpa using h1
              have b2 : (z != p.size) = true := by simpa using h1
              rw [if_neg (fun h => h1 h.2.1)] at hn
              subst hn
              clear h1
              obtain ⟨E1, E2, z0, z1⟩ := node_end ok hB HI7.out HQ7.out HBF7.out (.int .i64 0) (.slice none 0 0)
              have HE1 := Lib.hid E1
              have HE2 := Lib.hid E2
              clear E1 E2
              go_wp2_with fail
              skip
              refine bodyPost_ret (v := .tuple #[.string ⟨#[]⟩, .agg #[.int .i64 0, (.slice none 0 0)], .int .i64 101]) (by simp [results, Tryd.results50, go_sem, z0, z1]) rfl ⟨_, rfl, World.ownsRow_nil _ _ _ _, HE1.out, HE2.out⟩
end Blob
end Go.Proofs.YthgcjfpaekpeeaaDoor
