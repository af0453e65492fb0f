/- Joined texts: BlobS. -/
import Derived.Test.YthgcjfpaekpeeaaDoorJ35
/- The walk of the span's read: some of a file's bytes. -/
namespace Go.Proofs.YthgcjfpaekpeeaaDoor
set_option linter.unusedVariables false
set_option linter.unusedSimpArgs false
open Go.RowKit K Wire Go.Maps
namespace Blob
open Go.Proofs.YthgcjfpaekpeeaaDoor.Obj

def Need (level : Int) : Int := if level < 0 then 22 else level + 1
structure RdPre (G : Gt) (B0 bs : Nat) (lo hi level : Int) (p : Part) (at_ : Int) (x : BS) (out : Value) (w : World) : Prop where
  bad : x.bad = 0
  inv : G.I x.asked w
  sp : SpIs G B0 bs lo hi out x.data w
  size : 1 ≤ p.size
  at0 : 0 ≤ at_
  ends : at_ + p.size ≤ 262144
  nask : (x.asked.length : Int) + Need level * p.size ≤ 6000000
  ndat : (x.data.length : Int) + p.size ≤ 300000000
  base : B0 ≤ w.heap.size
def RdPost (G : Gt) (B0 bs : Nat) (lo hi : Int) (y : BS) (w : World) (e : Ending) (w' : World) : Prop :=
  e = .returned (.int .i64 y.bad) ∧ (∃ out', SpIs G B0 bs lo hi out' y.data w') ∧ G.I y.asked w' ∧ Mod (Ty G.B tR w) w w'

/-- what holds behind the node -/
structure Rd4 (G : Gt) (B0 bs : Nat) (lo hi : Int) (p : Part) (x : BS) (out : Value) (NN : Node) (b11 : Nat) (v : Value) (w wx : World) : Prop where
  box : Has wx b11 [.int .i64 (ndL NN), v] 96
  own : wx.ownsRow w.heap.size 25 2 v (ndK NN).length ((ndK NN).flatMap pc)
  inv : G.I (x.asked ++ [p.id]) wx
  mod : Mod (Ty G.B tR w) w wx
  sp : SpIs G B0 bs lo hi out x.data wx
  pbox : Has wx w.heap.size [.string p.id, .int .i64 p.size] 25
structure Rd3 (G : Gt) (B0 bs : Nat) (lo hi : Int) (p : Part) (x : BS) (out : Value) (NN : Node) (v : Value) (w wx : World) : Prop where
  own : wx.ownsRow w.heap.size 25 2 v (ndK NN).length ((ndK NN).flatMap pc)
  inv : G.I (x.asked ++ [p.id]) wx
  mod : Mod (Ty G.B tR w) w wx
  sp : SpIs G B0 bs lo hi out x.data wx
  pbox : Has wx w.heap.size [.string p.id, .int .i64 p.size] 25
theorem Rd3.mk' {G : Gt} {B0 bs : Nat} {lo hi : Int} {p : Part} {x : BS} {out : Value} {NN : Node} {v : Value} {w wa w5 : World} (hm : Mod (fun _ => False) w wa) (hq : Mod (Q G.B wa) wa w5) (hsp : SpIs G B0 bs lo hi out x.data wa)
    (hpb : Has wa w.heap.size [.string p.id, .int .i64 p.size] 25) (hv : w5.ownsRow wa.heap.size 25 2 v (ndK NN).length ((ndK NN).flatMap pc)) (hI : G.I (x.asked ++ [p.id]) w5) : Rd3 G B0 bs lo hi p x out NN v w w5 :=
  ⟨own_base hv hm.size, hI, (Q.after hm hq).mono fun k _ h => Ty.of_q (by decide) (by decide) k h, hsp.keepQ hq, hpb.keep hq (Q.not hpb (by decide) (by decide))⟩
theorem Rd3.alloc {G : Gt} {objs : List Ob} (ok : GtOk G objs) {B0 bs : Nat} {lo hi : Int} {p : Part} {x : BS} {out : Value} {NN : Node} {v : Value} {w w5 : World} (h : Rd3 G B0 bs lo hi p x out NN v w w5) :
    Rd4 G B0 bs lo hi p x out NN w5.heap.size v w (w5.alloc (.cells #[.int .i64 (ndL NN), v] 96)) :=
  have hm := (Mod.refl (fun _ => False) w5).alloc (.cells #[.int .i64 (ndL NN), v] 96)
  ⟨Has.new w5 [.int .i64 (ndL NN), v] _, own_keep h.own hm (fun _ _ _ h => h), ok.keep _ _ _ _ h.inv hm (fun _ _ h => h), Mod.trans h.mod hm (fun _ _ h => h.elim), h.sp.keep hm (fun h => h) (fun _ _ h => h), h.pbox.keep hm (fun h => h)⟩
theorem Rd3.set {G : Gt} {objs : List Ob} (ok : GtOk G objs) {B0 bs b : Nat} {lo hi : Int} {p : Part} {x : BS} {out : Value} {NN : Node} {v c d : Value} {w w5 : World} (h : Rd3 G B0 bs lo hi p x out NN v w w5) (hb : Has w5 b [c, d] 96) (hbw : w.heap.size ≤ b) (hB : G.B ≤ b) :
    Rd4 G B0 bs lo hi p x out NN b v w ((w5.setCell ⟨b, 0, none⟩ (.int .i64 (ndL NN))).setCell ⟨b, 1, none⟩ v) := by
  have hm : Mod (fun k => k = b) w5 ((w5.setCell ⟨b, 0, none⟩ (.int .i64 (ndL NN))).setCell ⟨b, 1, none⟩ v) := ((Mod.refl (fun k => k = b) w5).set1 rfl _ _).set1 rfl _ _
  refine ⟨(hb.set 0 _).set 1 _, own_keep h.own hm (fun k _ hk e => ?_), ok.keep _ _ _ _ h.inv hm (fun k hk e => ?_), Mod.trans h.mod hm (fun i hi e => ?_), h.sp.keep hm (fun e => ?_) (fun k hk e => ?_), h.pbox.keep hm (fun e => ?_)⟩
  · subst e; exact absurd rfl (has_ne hb (own_row h.own hk) (by decide))
  · subst e; exact R.not ⟨_, _, hb⟩ hB (by decide) (by decide) (by decide) (by decide) hk
  · omega
  · exact absurd e (has_ne2 hb h.sp.box (by decide))
  · subst e; exact absurd rfl (has_ne hb (own_row h.sp.own hk) (by decide))
  · exact absurd e (has_ne2 hb h.pbox (by decide))
theorem rdF_asked (objs : List Ob) (lo hi : Int) (l : Nat) (kids : List Part) (at_ : Int) (x : BS) (h : ∀ k ∈ kids, 1 ≤ k.size) : ((rdF objs lo hi l kids at_ x).2.asked.length : Int) ≤ x.asked.length + ((l : Int) + 1) * sizes kids := by
  have := rdF_m objs lo hi l (fun y : BS => (y.asked.length : Int)) (fun k => ((l : Int) + 1) * k.size) kids at_ x (fun k hk a y => rdS_asked objs lo hi l k a y (h k hk))
  rw [sum_mul] at this
  exact this
theorem rdF_data (objs : List Ob) (lo hi : Int) (l : Nat) (kids : List Part) (at_ : Int) (x : BS) (h : ∀ k ∈ kids, 1 ≤ k.size) : ((rdF objs lo hi l kids at_ x).2.data.length : Int) ≤ x.data.length + sizes kids := by
  exact rdF_m objs lo hi l (fun y : BS => (y.data.length : Int)) (fun k => k.size) kids at_ x (fun k hk a y => rdS_data objs lo hi l k a y (h k hk))
/-- what holds between two kids -/
structure RfIs (G : Gt) (objs : List Ob) (B0 bs : Nat) (lo hi L : Int) (kids : List Part) (at_ : Int) (x0 : BS) (b11 : Nat) (v : Value) (w : World) (j : Nat) (a : Int) (wr : World) : Prop where
  eqn : a = at_ + sizes (kids.take j)
  bad : (rdF objs lo hi (L - 1).toNat (kids.take j) at_ x0).2.bad = 0
  inv : G.I (rdF objs lo hi (L - 1).toNat (kids.take j) at_ x0).2.asked wr
  sp : ∃ out, SpIs G B0 bs lo hi out (rdF objs lo hi (L - 1).toNat (kids.take j) at_ x0).2.data wr
  mod : Mod (Ty G.B tR w) w wr
  box : Has wr b11 [.int .i64 L, v] 96
  own : wr.ownsRow w.heap.size 25 2 v kids.length (kids.flatMap pc)
theorem RfIs.next {G : Gt} {objs : List Ob} (ok : GtOk G objs) {B0 bs : Nat} {lo hi level L : Int} {kids : List Part} {p : Part} {at_ a : Int} {x : BS} {b11 j : Nat} {v : Value} {w wr : World} (h : RfIs G objs B0 bs lo hi L kids at_ (x.ask p.id) b11 v w j a wr) (hj : j < kids.length)
    (hL : (level < 0 ∨ L = level) ∧ 1 ≤ L ∧ L ≤ 20) (hs : (kids.map (·.size)).sum = p.size) (hk : ∀ k ∈ kids, 1 ≤ k.size ∧ k.size ≤ 262144 ∧ k.id.size = 32) (h0 : 0 ≤ at_) (he : at_ + p.size ≤ 262144) (hp : 1 ≤ p.size)
    (hna : (x.asked.length : Int) + Need level * p.size ≤ 6000000) (hnd : (x.data.length : Int) + p.size ≤ 300000000) (hb : B0 ≤ w.heap.size) (o : Obj) :
    ∃ out, RdPre G B0 bs lo hi (L - 1) kids[j] a (rdF objs lo hi (L - 1).toNat (kids.take j) at_ (x.ask p.id)).2 out (wr.alloc o) := by
  obtain ⟨out, hsp⟩ := h.sp
  have hst := sizes_snoc hj
  have hk1 := hk _ (List.getElem_mem hj)
  have htk : ∀ k ∈ kids.take j, 1 ≤ k.size := fun k hk' => (hk k (List.mem_of_mem_take hk')).1
  have h1 := rdF_asked objs lo hi (L - 1).toNat (kids.take j) at_ (x.ask p.id) htk
  have h2 := rdF_data objs lo hi (L - 1).toNat (kids.take j) at_ (x.ask p.id) htk
  have hz : 0 ≤ sizes (kids.take j) := by
    have := sum_take_le (kids.take j) htk; unfold sizes; omega
  have hz2 : 0 ≤ sizes (kids.drop (j + 1)) := by
    have := sum_take_le (kids.drop (j + 1)) (fun k hk' => (hk k (List.mem_of_mem_drop hk')).1); unfold sizes; omega
  have hz3 : sizes (kids.take (j + 1)) + sizes (kids.drop (j + 1)) = p.size := by rw [← sizes_append, List.take_append_drop]; exact hs
  have hm := (Mod.refl (fun _ => False) wr).alloc o
  have hle : L * (sizes (kids.take j) + kids[j].size) ≤ L * p.size := Int.mul_le_mul_of_nonneg_left (by omega) (by omega)
  rw [Int.mul_add] at hle
  have hnl : L * p.size + p.size ≤ Need level * p.size := by
    rw [show L * p.size + p.size = (L + 1) * p.size by rw [Int.add_mul, Int.one_mul]]
    refine Int.mul_le_mul_of_nonneg_right ?_ (by omega)
    unfold Need
    split <;> omega
  have e1 : (((L - 1).toNat : Int) + 1) = L := by omega
  have e2 : Need (L - 1) = L := by unfold Need; rw [if_neg (by omega)]; omega
  rw [e1] at h1
  have e3 : ((x.ask p.id).asked.length : Int) = x.asked.length + 1 := by simp [BS.ask]
  have e4 : (x.ask p.id).data = x.data := rfl
  rw [e3] at h1
  rw [e4] at h2
  refine ⟨out, h.bad, ok.keep _ _ _ _ h.inv hm (fun _ _ h => h), hsp.keep hm (fun h => h) (fun _ _ h => h), hk1.1, by rw [h.eqn]; omega, by rw [h.eqn]; omega, ?_, by omega, by have := h.mod.size; simp; omega⟩
  rw [e2]
  omega
theorem node_bad {objs : List Ob} {p : Part} {level e : Int} (h : nodeOf objs p level = .bad e) : e ≠ 0 := by
  unfold nodeOf nodeB at h
  cases hf : findL objs p.id with
  | none => rw [hf] at h; injection h with h; omega
  | some b =>
    rw [hf] at h
    dsimp only at h
    split at h
    · split at h
      · cases h
      · injection h with h; omega
    · split at h
      · cases h
      · injection h with h; omega
theorem node_chunk {objs : List Ob} {p : Part} {level : Int} {s : ByteArray} (h : nodeOf objs p level = .chunk s) : (s.size : Int) = p.size ∧ level ≤ 0 := by
  unfold nodeOf nodeB at h
  cases hf : findL objs p.id with
  | none => rw [hf] at h; cases h
  | some b =>
    rw [hf] at h
    dsimp only at h
    split at h
    · rename_i hc
      split at h
      · rename_i h1
        injection h with h
        have h2 : ChunkP b := by simpa [okChunk] using hc
        obtain ⟨h3, _⟩ := h2
        have h4 : s.size = b.size - 1 := by rw [← h, ByteArray.size_extract]; omega
        omega
      · cases h
    · split at h
      · cases h
      · cases h
theorem rdB_at {objs : List Ob} {lo hi level : Int} {p : Part} {at_ : Int} {x : BS} (hb : x.bad = 0) (hm : at_ < hi ∧ lo < at_ + p.size) : rdB objs lo hi level p at_ x =
    match nodeOf objs p level with
    | .bad e => { x.ask p.id with bad := e }
    | .chunk s => { x.ask p.id with data := x.data ++ some_ s.data.toList (max (lo - at_) 0) (min (hi - at_) p.size) }
    | .fan L kids => (rdF objs lo hi (L - 1).toNat kids at_ (x.ask p.id)).2 := by
  unfold rdB
  rw [if_neg (by rintro (h | h); exact h hb; exact h hm)]
  rfl
set_option maxRecDepth 100000 in
set_option maxHeartbeats 8000000 in
theorem read_step {G : Gt} {objs : List Ob} (ok : GtOk G objs) (hob : ObsOk objs) {B0 bs : Nat} {lo hi : Int} (hlo : 0 ≤ lo ∧ lo ≤ hi ∧ hi ≤ 262144) (level : Int) (hlv : -1 ≤ level ∧ level ≤ 20)
    (IH : ∀ L : Int, 1 ≤ L → L ≤ 20 → (level < 0 ∨ L = level) → ∀ (p : Part) (at_ : Int) (x : BS) (out : Value) (w : World), RdPre G B0 bs lo hi (L - 1) p at_ x out w →
      Calls Tryd.prog 31 #[.pointer (some ⟨bs, 0, none⟩), .agg #[.string p.id, .int .i64 p.size], .int .i64 at_, .int .i64 (L - 1)] w (RdPost G B0 bs lo hi (rdS objs lo hi (L - 1).toNat p at_ x) w))
    (p : Part) (at_ : Int) (x : BS) (out : Value) (w : World) (h : RdPre G B0 bs lo hi level p at_ x out w) :
    Calls Tryd.prog 31 #[.pointer (some ⟨bs, 0, none⟩), .agg #[.string p.id, .int .i64 p.size], .int .i64 at_, .int .i64 level] w (RdPost G B0 bs lo hi (rdB objs lo hi level p at_ x) w) := by
  have hsz := h.size
  have hat := h.at0
  have hend := h.ends
  have hm1 := (Mod.refl (fun _ => False) w).alloc (.cells #[.string p.id, .int .i64 p.size] 25)
  have hb1 := Has.new w [.string p.id, .int .i64 p.size] 25
  have hbx1 := h.sp.box.keep hm1 (fun h => h)
  have x0 := hb1.cell (o := 0) rfl
  have x1 := hb1.cell (o := 1) rfl
  have HME := Lib.hid (meets_calls lo hi p at_ _ hbx1 (by omega) (by omega))
  have H0 := Lib.hid h
  have HM1 := Lib.hid hm1
  have HB1 := Lib.hid hb1
  have HIH := Lib.hid IH
  obtain ⟨Y, hY⟩ : ∃ Y, rdB objs lo hi level p at_ x = Y := ⟨_, rfl⟩
  rw [hY]
  have HY := Lib.hid hY
  clear h hm1 hb1 hbx1 IH hY
  unfold RdPost
  go_enter Tryd.func31, Tryd.ntmps31
  go_wp2_with fail
  refine HME.out.mono ?_
  rintro e w2 ⟨rfl, hm2⟩
  by_cases hme : at_ < hi ∧ lo < at_ + p.size
  · rw [show decide (at_ < hi ∧ lo < at_ + p.size) = true from decide_eq_true hme]
    have hm := Mod.trans HM1.out hm2 (fun _ _ h => h)
    have hbx2 := H0.out.sp.keep hm (fun h => h) (fun _ _ h => h)
    have hpb2 := HB1.out.keep hm2 (fun h => h)
    have hI2 := ok.keep _ _ _ _ H0.out.inv hm (fun _ _ h => h)
    have hnb : ¬ (Q G.B w2 bs ∨ w2.heap.size ≤ bs) := by
      rintro (h | h)
      · exact Q.not hbx2.box (by decide) (by decide) h
      · have := hbx2.box.lt; omega
    have hnp : ¬ (Q G.B w2 w.heap.size ∨ w2.heap.size ≤ w.heap.size) := by
      rintro (h | h)
      · exact Q.not hpb2 (by decide) (by decide) h
      · have := hpb2.lt; omega
    have fv0 := fun (w' : World) (mm : Mod (fun k => Q G.B w2 k ∨ w2.heap.size ≤ k) w2.drew w') => (mm.cell (p := ⟨bs, 0, none⟩) hbx2.box.lt hnb).trans (hbx2.box.cell (o := 0) rfl)
    have fv1 := fun (w' : World) (mm : Mod (fun k => Q G.B w2 k ∨ w2.heap.size ≤ k) w2.drew w') => (mm.cell (p := ⟨w.heap.size, 0, none⟩) hpb2.lt hnp).trans (hpb2.cell (o := 0) rfl)
    have fv2 := fun (w' : World) (mm : Mod (fun k => Q G.B w2 k ∨ w2.heap.size ≤ k) w2.drew w') => (mm.cell (p := ⟨w.heap.size, 1, none⟩) hpb2.lt hnp).trans (hpb2.cell (o := 1) rfl)
    have hBw : G.B ≤ w2.heap.size := by have := hbx2.le.1; have := H0.out.base; have := hm.size; omega
    have hna : x.asked.length ≤ 1000000000 := by
      have h1 := H0.out.nask
      have h2 : 0 ≤ Need level * p.size := Int.mul_nonneg (by unfold Need; split <;> omega) (by omega)
      omega
    obtain ⟨NN, hNN⟩ : ∃ NN, nodeOf objs p level = NN := ⟨_, rfl⟩
    have HND := Lib.hid (fun w1 (hI : G.I x.asked w1) (hb : G.B ≤ w1.heap.size) => node_calls ok hob p level x.asked w1 hI hna (by omega) hlv hb)
    have HI2 := Lib.hid hI2
    have HBX2 := Lib.hid hbx2
    have HPB2 := Lib.hid hpb2
    have HM2 := Lib.hid hm
    have hws := hm.size
    have hpl := hpb2.lt
    rw [hNN] at HND
    have HNN := Lib.hid hNN
    clear hm hbx2 hpb2 hI2 hNN hnb hnp x0 x1
    go_upto_region 4 with fail
    go_cut [10, 11, 12] from 16 (fun s10 s11 s12 wx => ∃ (b11 : Nat) (v : Value), s10 = .string (ndS NN) ∧ s11 = .pointer (some ⟨b11, 0, none⟩) ∧ s12 = .int .i64 (ndE NN) ∧ Hid (Rd4 G B0 bs lo hi p x out NN b11 v w wx))
    case first =>
      refine region_mT (fun k => Q G.B w2 k ∨ w2.heap.size ≤ k) (by kernel_rfl) ?_
      simp only [List.length_cons, List.length_nil, List.replicate]
      refine take0T (v := ?v1) (oi := ?o1) 0 ?hi1 (by kernel_rfl) (by kernel_rfl) (by kernel_rfl) ?hq1 ?hy1 ?_
      case hi1 => (simp only [List.getElem?_toArray, List.getElem?_cons_zero, List.getElem?_cons_succ]; rfl)
      case hq1 => exact fun _ _ _ h => h
      case hy1 => first | (refine ry_notS ?_; rfl) | (refine ry_runS (by rfl) (fun w' hw' => ?_); go_simp; try rfl)
      simp only [Act.put, List.setIfInBounds_toArray, List.set_cons_zero, List.set_cons_succ]
      refine take0T (v := ?v2) (oi := ?o2) 1 ?hi2 (by kernel_rfl) (by kernel_rfl) (by kernel_rfl) ?hq2 ?hy2 ?_
      case hi2 => (simp only [List.getElem?_toArray, List.getElem?_cons_zero, List.getElem?_cons_succ]; rfl)
      case hq2 => exact fun _ _ _ h => h
      case hy2 => first | (refine ry_notS ?_; rfl) | (refine ry_runS (by rfl) (fun w' hw' => ?_); go_simp; try rfl)
      simp only [Act.put, List.setIfInBounds_toArray, List.set_cons_zero, List.set_cons_succ]
      refine take0T (v := ?v3) (oi := ?o3) 2 ?hi3 (by kernel_rfl) (by kernel_rfl) (by kernel_rfl) ?hq3 ?hy3 ?_
      case hi3 => (simp only [List.getElem?_toArray, List.getElem?_cons_zero, List.getElem?_cons_succ]; rfl)
      case hq3 => exact fun _ _ _ h => h
      case hy3 => first | (refine ry_notS ?_; rfl) | (refine ry_runS (by rfl) (fun w' hw' => ?_); go_simp; try rfl)
      simp only [Act.put, List.setIfInBounds_toArray, List.set_cons_zero, List.set_cons_succ]
      refine take0T (v := ?v4) (oi := ?o4) 3 ?hi4 (by kernel_rfl) (by kernel_rfl) (by kernel_rfl) ?hq4 ?hy4 ?_
      case hi4 => (simp only [List.getElem?_toArray, List.getElem?_cons_zero, List.getElem?_cons_succ]; rfl)
      case hq4 => exact fun _ _ _ h => h
      case hy4 => first | (refine ry_notS ?_; rfl) | (refine ry_runS (by rfl) (fun w' hw' => ?_); go_simp; try rfl)
      simp only [Act.put, List.setIfInBounds_toArray, List.set_cons_zero, List.set_cons_succ]
      refine take0T (v := ?v5) (oi := ?o5) 4 ?hi5 (by kernel_rfl) (by kernel_rfl) (by kernel_rfl) ?hq5 ?hy5 ?_
      case hi5 => (simp only [List.getElem?_toArray, List.getElem?_cons_zero, List.getElem?_cons_succ]; rfl)
      case hq5 => exact fun _ _ _ h => h
      case hy5 => first | (refine ry_notS ?_; rfl) | (refine ry_runS (by rfl) (fun w' hw' => ?_); go_simp; try rfl)
      simp only [Act.put, List.setIfInBounds_toArray, List.set_cons_zero, List.set_cons_succ]
      refine take0T (v := ?v6) (oi := ?o6) 5 ?hi6 (by kernel_rfl) (by kernel_rfl) (by kernel_rfl) ?hq6 ?hy6 ?_
      case hi6 => (simp only [List.getElem?_toArray, List.getElem?_cons_zero, List.getElem?_cons_succ]; rfl)
      case hq6 => exact fun _ _ _ h => h
      case hy6 => first | (refine ry_notS ?_; rfl) | (refine ry_runS (by rfl) (fun w' hw' => ?_); go_simp; try rfl)
      simp only [Act.put, List.setIfInBounds_toArray, List.set_cons_zero, List.set_cons_succ]
      refine two0T (oi := ?o7) (oj := ?p7) 6 11 (by kernel_rfl) ?hi7 ?hj7 ?hw7 ?hx7 ?way7 ?yaw7
      case hi7 => (simp only [List.getElem?_toArray, List.getElem?_cons_zero, List.getElem?_cons_succ]; rfl)
      case hj7 => (simp only [List.getElem?_toArray, List.getElem?_cons_zero, List.getElem?_cons_succ]; rfl)
      case hw7 => rfl
      case hx7 => rfl
      case way7 =>
        go_simp
        refine (HND.out _ (ok.keep _ _ _ _ HI2.out ((Mod.refl (fun _ => False) w2).drew) (fun _ _ h => h)) hBw).mono ?_
        rintro e w5 ⟨v, rfl, hv, hI5, hq5⟩
        refine ⟨.inl (hq5.mono fun _ _ h => .inl h), ?_⟩
        obtain ⟨Av, cv, rfl, _, hck, _, _⟩ := own_cells hv
        have hrd4 := Rd3.alloc ok (Rd3.mk' (HM2.out.drew) hq5 (HBX2.out.keep ((Mod.refl (fun _ => False) w2).drew) (fun h => h) (fun _ _ h => h)) HPB2.out.drew hv hI5)
        refine take0T (v := ?v8) (oi := ?o8) 7 ?hi8 (by kernel_rfl) (by kernel_rfl) (by kernel_rfl) ?hq8 ?hy8 ?_
        case hi8 => (simp only [List.getElem?_toArray, List.getElem?_cons_zero, List.getElem?_cons_succ]; rfl)
        case hq8 => exact fun _ _ _ h => h
        case hy8 => first | (refine ry_notS ?_; rfl) | (refine ry_runS (by rfl) (fun w' hw' => ?_); go_simp; try rfl)
        simp only [Act.put, List.setIfInBounds_toArray, List.set_cons_zero, List.set_cons_succ]
        refine take0T (v := ?v9) (oi := ?o9) 8 ?hi9 (by kernel_rfl) (by kernel_rfl) (by kernel_rfl) ?hq9 ?hy9 ?_
        case hi9 => (simp only [List.getElem?_toArray, List.getElem?_cons_zero, List.getElem?_cons_succ]; rfl)
        case hq9 => exact fun _ _ _ h => h
        case hy9 => first | (refine ry_notS ?_; rfl) | (refine ry_runS (by rfl) (fun w' hw' => ?_); go_simp; try rfl)
        simp only [Act.put, List.setIfInBounds_toArray, List.set_cons_zero, List.set_cons_succ]
        refine take0T (v := ?v10) (oi := ?o10) 9 ?hi10 (by kernel_rfl) (by kernel_rfl) (by kernel_rfl) ?hq10 ?hy10 ?_
        case hi10 => (simp only [List.getElem?_toArray, List.getElem?_cons_zero, List.getElem?_cons_succ]; rfl)
        case hq10 => exact fun _ _ _ h => h
        case hy10 => first | (refine ry_notS ?_; rfl) | (refine ry_runS (by rfl) (fun w' hw' => ?_); go_simp; try rfl)
        simp only [Act.put, List.setIfInBounds_toArray, List.set_cons_zero, List.set_cons_succ]
        refine take0T (v := ?v11) (oi := ?o11) 10 ?hi11 (by kernel_rfl) (by kernel_rfl) (by kernel_rfl) ?hq11 ?hy11 ?_
        case hi11 => (simp only [List.getElem?_toArray, List.getElem?_cons_zero, List.getElem?_cons_succ]; rfl)
        case hq11 => exact fun _ _ _ h => h
        case hy11 => first | (refine ry_notS ?_; rfl) | (refine ry_runS (by rfl) (fun w' hw' => ?_); go_simp; try rfl)
        simp only [Act.put, List.setIfInBounds_toArray, List.set_cons_zero, List.set_cons_succ]
        refine step0T (o := ?o12) 11 (by kernel_rfl) ?hi12 ?hw12 ?_
        case hi12 => (simp only [List.getElem?_toArray, List.getElem?_cons_zero, List.getElem?_cons_succ]; rfl)
        case hw12 => rfl
        go_simp
        refine ⟨.inl (Mod.alloc (Mod.refl _ _) _), ?_⟩
        refine take0T (v := ?v13) (oi := ?o13) 12 ?hi13 (by kernel_rfl) (by kernel_rfl) (by kernel_rfl) ?hq13 ?hy13 ?_
        case hi13 => (simp only [List.getElem?_toArray, List.getElem?_cons_zero, List.getElem?_cons_succ]; rfl)
        case hq13 => exact fun _ _ _ h => h
        case hy13 => first | (refine ry_notS ?_; rfl) | (refine ry_runS (by rfl) (fun w' hw' => ?_); go_simp; try rfl)
        simp only [Act.put, List.setIfInBounds_toArray, List.set_cons_zero, List.set_cons_succ]
        refine step0T (o := ?o14) 13 (by kernel_rfl) ?hi14 ?hw14 ?_
        case hi14 => (simp only [List.getElem?_toArray, List.getElem?_cons_zero, List.getElem?_cons_succ]; rfl)
        case hw14 => rfl
        go_simp
        refine ⟨.inl (mod_realloc (.inr hq5.size)), ?_⟩
        refine take0T (v := ?v15) (oi := ?o15) 14 ?hi15 (by kernel_rfl) (by kernel_rfl) (by kernel_rfl) ?hq15 ?hy15 ?_
        case hi15 => (simp only [List.getElem?_toArray, List.getElem?_cons_zero, List.getElem?_cons_succ]; rfl)
        case hq15 => exact fun _ _ _ h => h
        case hy15 => first | (refine ry_notS ?_; rfl) | (refine ry_runS (by rfl) (fun w' hw' => ?_); go_simp; try rfl)
        simp only [Act.put, List.setIfInBounds_toArray, List.set_cons_zero, List.set_cons_succ]
        refine wpAnyT_done (by kernel_rfl) ?_
        go_wp2_with fail
        go_meet
        case rel => exact ⟨_, _, rfl, rfl, rfl, Lib.hid hrd4⟩
      case yaw7 =>
        go_simp
        refine ⟨.inl (Mod.alloc (Mod.refl _ _) _), ?_⟩
        refine step0T (o := ?o16) 6 (by kernel_rfl) ?hi16 ?hw16 ?_
        case hi16 => (simp only [List.getElem?_toArray, List.getElem?_cons_zero, List.getElem?_cons_succ]; rfl)
        case hw16 => rfl
        go_simp
        refine (HND.out _ (ok.keep _ _ _ _ HI2.out ((Mod.refl (fun _ => False) w2).drew.alloc _) (fun _ _ h => h)) (by simp; omega)).mono ?_
        rintro e w5 ⟨v, rfl, hv, hI5, hq5⟩
        refine ⟨.inl (hq5.mono fun k hk h => ?_), ?_⟩
        · rcases Nat.lt_or_ge k w2.heap.size with hlt | hge
          · obtain ⟨h1, cur, fr, T, h2, h3⟩ := h
            rw [Below.heap_alloc w2.drew _ _ (show k < w2.drew.heap.size from hlt)] at h2
            exact .inl ⟨h1, cur, fr, T, h2, h3⟩
          · exact .inr hge
        obtain ⟨Av, cv, rfl, _, hck, _, _⟩ := own_cells hv
        have hb5 : Has w5 w2.heap.size [.int .i64 0, .slice none 0 0] 96 := (Has.new w2.drew [.int .i64 0, .slice none 0 0] 96).keep hq5 (Q.not (Has.new w2.drew [.int .i64 0, .slice none 0 0] 96) (by decide) (by decide))
        have q0 := hb5.cell (o := 0) rfl
        have q1 := hb5.cell (o := 1) rfl
        have r0 := hb5.frozen 0
        have r1 := hb5.frozen 1
        have hrd4 := Rd3.set ok (Rd3.mk' ((HM2.out.drew).alloc _) hq5 (HBX2.out.keep ((Mod.refl (fun _ => False) w2).drew.alloc _) (fun h => h) (fun _ _ h => h)) (HPB2.out.drew.alloc _) hv hI5) hb5 (by omega) hBw
        refine take0T (v := ?v17) (oi := ?o17) 7 ?hi17 (by kernel_rfl) (by kernel_rfl) (by kernel_rfl) ?hq17 ?hy17 ?_
        case hi17 => (simp only [List.getElem?_toArray, List.getElem?_cons_zero, List.getElem?_cons_succ]; rfl)
        case hq17 => exact fun _ _ _ h => h
        case hy17 => first | (refine ry_notS ?_; rfl) | (refine ry_runS (by rfl) (fun w' hw' => ?_); go_simp; try rfl)
        simp only [Act.put, List.setIfInBounds_toArray, List.set_cons_zero, List.set_cons_succ]
        refine take0T (v := ?v18) (oi := ?o18) 8 ?hi18 (by kernel_rfl) (by kernel_rfl) (by kernel_rfl) ?hq18 ?hy18 ?_
        case hi18 => (simp only [List.getElem?_toArray, List.getElem?_cons_zero, List.getElem?_cons_succ]; rfl)
        case hq18 => exact fun _ _ _ h => h
        case hy18 => first | (refine ry_notS ?_; rfl) | (refine ry_runS (by rfl) (fun w' hw' => ?_); go_simp; try rfl)
        simp only [Act.put, List.setIfInBounds_toArray, List.set_cons_zero, List.set_cons_succ]
        refine take0T (v := ?v19) (oi := ?o19) 9 ?hi19 (by kernel_rfl) (by kernel_rfl) (by kernel_rfl) ?hq19 ?hy19 ?_
        case hi19 => (simp only [List.getElem?_toArray, List.getElem?_cons_zero, List.getElem?_cons_succ]; rfl)
        case hq19 => exact fun _ _ _ h => h
        case hy19 => first | (refine ry_notS ?_; rfl) | (refine ry_runS (by rfl) (fun w' hw' => ?_); go_simp; try rfl)
        simp only [Act.put, List.setIfInBounds_toArray, List.set_cons_zero, List.set_cons_succ]
        refine take0T (v := ?v20) (oi := ?o20) 10 ?hi20 (by kernel_rfl) (by kernel_rfl) (by kernel_rfl) ?hq20 ?hy20 ?_
        case hi20 => (simp only [List.getElem?_toArray, List.getElem?_cons_zero, List.getElem?_cons_succ]; rfl)
        case hq20 => exact fun _ _ _ h => h
        case hy20 => first | (refine ry_notS ?_; rfl) | (refine ry_runS (by rfl) (fun w' hw' => ?_); go_simp; try rfl)
        simp only [Act.put, List.setIfInBounds_toArray, List.set_cons_zero, List.set_cons_succ]
        refine take0T (v := ?v21) (oi := ?o21) 12 ?hi21 (by kernel_rfl) (by kernel_rfl) (by kernel_rfl) ?hq21 ?hy21 ?_
        case hi21 => (simp only [List.getElem?_toArray, List.getElem?_cons_zero, List.getElem?_cons_succ]; rfl)
        case hq21 => exact fun _ _ _ h => h
        case hy21 => first | (refine ry_notS ?_; rfl) | (refine ry_runS (by rfl) (fun w' hw' => ?_); go_simp; try rfl)
        simp only [Act.put, List.setIfInBounds_toArray, List.set_cons_zero, List.set_cons_succ]
        refine step0T (o := ?o22) 13 (by kernel_rfl) ?hi22 ?hw22 ?_
        case hi22 => (simp only [List.getElem?_toArray, List.getElem?_cons_zero, List.getElem?_cons_succ]; rfl)
        case hw22 => rfl
        go_simp
        refine ⟨.inl (Mod.setCell (Mod.setCell (Mod.refl _ _) (p := ⟨w2.heap.size, 0, none⟩) (.inl (.inr (Nat.le_refl _))) _) (p := ⟨w2.heap.size, 1, none⟩) (.inl (.inr (Nat.le_refl _))) _), ?_⟩
        refine take0T (v := ?v23) (oi := ?o23) 14 ?hi23 (by kernel_rfl) (by kernel_rfl) (by kernel_rfl) ?hq23 ?hy23 ?_
        case hi23 => (simp only [List.getElem?_toArray, List.getElem?_cons_zero, List.getElem?_cons_succ]; rfl)
        case hq23 => exact fun _ _ _ h => h
        case hy23 => first | (refine ry_notS ?_; rfl) | (refine ry_runS (by rfl) (fun w' hw' => ?_); go_simp; try rfl)
        simp only [Act.put, List.setIfInBounds_toArray, List.set_cons_zero, List.set_cons_succ]
        refine wpAnyT_done (by kernel_rfl) ?_
        go_wp2_with fail
        go_meet
        case rel => exact ⟨_, _, rfl, rfl, rfl, Lib.hid hrd4⟩
    case rest =>
      obtain ⟨b11, v, rfl, rfl, rfl, HR4⟩ := hcut
      clear fv0 fv1 fv2 HME HB1 HM1 hm2 HI2 HBX2 HPB2 HM2 HND
      have hy := HY.out
      rw [rdB_at H0.out.bad hme, HNN.out] at hy
      have x3 := HR4.out.box.cell (o := 0) rfl
      have x4 := HR4.out.box.cell (o := 1) rfl
      cases NN with
      | bad e =>
        have he := node_bad HNN.out
        have b1 : (e != 0) = true := by simpa using he
        dsimp only at hy
        subst hy
        simp only [show ndE (Node.bad e) = e from rfl]
        clear he
        go_wp2_with fail
        go_ret
        exact ⟨rfl, ⟨out, HR4.out.sp⟩, HR4.out.inv, HR4.out.mod⟩
      | chunk s =>
        have hch := node_chunk HNN.out
        dsimp only at hy
        simp only [show ndE (Node.chunk s) = 0 from rfl, show ndS (Node.chunk s) = s from rfl]
        simp only [show ndL (Node.chunk s) = 0 from rfl] at x3
        have hsz1 := hch.1
        have hob8 : ∀ k, out.ownBlock = some k → ¬ (k = bs ∨ k = w.heap.size) := fun k hk e => by
          rcases e with rfl | rfl
          · exact absurd rfl (has_ne HR4.out.sp.box (own_row HR4.out.sp.own hk) (by decide))
          · exact absurd rfl (has_ne HR4.out.pbox (own_row HR4.out.sp.own hk) (by decide))
        have fv0 := fun (w' : World) (mm : Mod (fun k => out.ownBlock = some k) wc.drew w') => (mm.cell (p := ⟨bs, 1, none⟩) HR4.out.sp.box.lt (fun h => hob8 _ h (.inl rfl))).trans (HR4.out.sp.box.cell (o := 1) rfl)
        have fv1 := fun (w' : World) (mm : Mod (fun k => out.ownBlock = some k) wc.drew w') => (mm.cell (p := ⟨bs, 2, none⟩) HR4.out.sp.box.lt (fun h => hob8 _ h (.inl rfl))).trans (HR4.out.sp.box.cell (o := 2) rfl)
        have fv2 := fun (w' : World) (mm : Mod (fun k => out.ownBlock = some k) wc.drew w') => (mm.cell (p := ⟨bs, 3, none⟩) HR4.out.sp.box.lt (fun h => hob8 _ h (.inl rfl))).trans (HR4.out.sp.box.cell (o := 3) rfl)
        have fv3 := fun (w' : World) (mm : Mod (fun k => out.ownBlock = some k) wc.drew w') => (mm.cell (p := ⟨w.heap.size, 1, none⟩) HR4.out.pbox.lt (fun h => hob8 _ h (.inr rfl))).trans (HR4.out.pbox.cell (o := 1) rfl)
        have hw1 : IntKind.i64.wrap (lo - at_) = lo - at_ := by rw [IntKind.wrap_i64]; omega
        have hw2 : IntKind.i64.wrap (hi - at_) = hi - at_ := by rw [IntKind.wrap_i64]; omega
        have hsl := fun w' => run_some s (max (lo - at_) 0) (min (hi - at_) p.size) (by omega) (by omega) (by omega) w'
        obtain ⟨PC, hPC⟩ : ∃ PC, some_ s.data.toList (max (lo - at_) 0) (min (hi - at_) p.size) = PC := ⟨_, rfl⟩
        have hpl := some_le s.data.toList (max (lo - at_) 0) (min (hi - at_) p.size) p.size (by omega) (by omega) (by omega)
        simp only [hPC] at hsl hy hpl
        have hps : (⟨PC.toArray⟩ : ByteArray).size = PC.length := by simp [ByteArray.size]
        have hnd := H0.out.ndat
        have HY2 := Lib.hid hy
        have HOB := Lib.hid hob8
        have hbase := H0.out.base
        have hms := HR4.out.mod.size
        clear hy hPC hch hob8
        go_wp2_with fail
        refine region_mT (fun k => out.ownBlock = some k) (by kernel_rfl) ?_
        simp only [List.length_cons, List.length_nil, List.replicate]
        refine take0T (v := ?v24) (oi := ?o24) 0 ?hi24 (by kernel_rfl) (by kernel_rfl) (by kernel_rfl) ?hq24 ?hy24 ?_
        case hi24 => (simp only [List.getElem?_toArray, List.getElem?_cons_zero, List.getElem?_cons_succ]; rfl)
        case hq24 => exact fun _ _ _ h => h
        case hy24 => first | (refine ry_notS ?_; rfl) | (refine ry_runS (by rfl) (fun w' hw' => ?_); go_simp; try rfl)
        simp only [Act.put, List.setIfInBounds_toArray, List.set_cons_zero, List.set_cons_succ]
        refine take0T (v := ?v25) (oi := ?o25) 1 ?hi25 (by kernel_rfl) (by kernel_rfl) (by kernel_rfl) ?hq25 ?hy25 ?_
        case hi25 => (simp only [List.getElem?_toArray, List.getElem?_cons_zero, List.getElem?_cons_succ]; rfl)
        case hq25 => exact fun _ _ _ h => h
        case hy25 => first | (refine ry_notS ?_; rfl) | (refine ry_runS (by rfl) (fun w' hw' => ?_); go_simp; try rfl)
        simp only [Act.put, List.setIfInBounds_toArray, List.set_cons_zero, List.set_cons_succ]
        refine take0T (v := ?v26) (oi := ?o26) 2 ?hi26 (by kernel_rfl) (by kernel_rfl) (by kernel_rfl) ?hq26 ?hy26 ?_
        case hi26 => (simp only [List.getElem?_toArray, List.getElem?_cons_zero, List.getElem?_cons_succ]; rfl)
        case hq26 => exact fun _ _ _ h => h
        case hy26 => first | (refine ry_notS ?_; rfl) | (refine ry_runS (by rfl) (fun w' hw' => ?_); go_simp; try rfl)
        simp only [Act.put, List.setIfInBounds_toArray, List.set_cons_zero, List.set_cons_succ]
        refine take0T (v := ?v27) (oi := ?o27) 3 ?hi27 (by kernel_rfl) (by kernel_rfl) (by kernel_rfl) ?hq27 ?hy27 ?_
        case hi27 => (simp only [List.getElem?_toArray, List.getElem?_cons_zero, List.getElem?_cons_succ]; rfl)
        case hq27 => exact fun _ _ _ h => h
        case hy27 => first | (refine ry_notS ?_; rfl) | (refine ry_runS (by rfl) (fun w' hw' => ?_); go_simp; try rfl)
        simp only [Act.put, List.setIfInBounds_toArray, List.set_cons_zero, List.set_cons_succ]
        refine take0T (v := ?v28) (oi := ?o28) 4 ?hi28 (by kernel_rfl) (by kernel_rfl) (by kernel_rfl) ?hq28 ?hy28 ?_
        case hi28 => (simp only [List.getElem?_toArray, List.getElem?_cons_zero, List.getElem?_cons_succ]; rfl)
        case hq28 => exact fun _ _ _ h => h
        case hy28 => first | (refine ry_notS ?_; rfl) | (refine ry_runS (by rfl) (fun w' hw' => ?_); go_simp; try rfl)
        simp only [Act.put, List.setIfInBounds_toArray, List.set_cons_zero, List.set_cons_succ]
        refine take0T (v := ?v29) (oi := ?o29) 5 ?hi29 (by kernel_rfl) (by kernel_rfl) (by kernel_rfl) ?hq29 ?hy29 ?_
        case hi29 => (simp only [List.getElem?_toArray, List.getElem?_cons_zero, List.getElem?_cons_succ]; rfl)
        case hq29 => exact fun _ _ _ h => h
        case hy29 => first | (refine ry_notS ?_; rfl) | (refine ry_runS (by rfl) (fun w' hw' => ?_); go_simp; try rfl)
        simp only [Act.put, List.setIfInBounds_toArray, List.set_cons_zero, List.set_cons_succ]
        refine take0T (v := ?v30) (oi := ?o30) 6 ?hi30 (by kernel_rfl) (by kernel_rfl) (by kernel_rfl) ?hq30 ?hy30 ?_
        case hi30 => (simp only [List.getElem?_toArray, List.getElem?_cons_zero, List.getElem?_cons_succ]; rfl)
        case hq30 => exact fun _ _ _ h => h
        case hy30 => first | (refine ry_notS ?_; rfl) | (refine ry_runS (by rfl) (fun w' hw' => ?_); go_simp; try rfl)
        simp only [Act.put, List.setIfInBounds_toArray, List.set_cons_zero, List.set_cons_succ]
        refine take0T (v := ?v31) (oi := ?o31) 7 ?hi31 (by kernel_rfl) (by kernel_rfl) (by kernel_rfl) ?hq31 ?hy31 ?_
        case hi31 => (simp only [List.getElem?_toArray, List.getElem?_cons_zero, List.getElem?_cons_succ]; rfl)
        case hq31 => exact fun _ _ _ h => h
        case hy31 => first | (refine ry_notS ?_; rfl) | (refine ry_runS (by rfl) (fun w' hw' => ?_); go_simp; try rfl)
        simp only [Act.put, List.setIfInBounds_toArray, List.set_cons_zero, List.set_cons_succ]
        refine take0T (v := ?v32) (oi := ?o32) 8 ?hi32 (by kernel_rfl) (by kernel_rfl) (by kernel_rfl) ?hq32 ?hy32 ?_
        case hi32 => (simp only [List.getElem?_toArray, List.getElem?_cons_zero, List.getElem?_cons_succ]; rfl)
        case hq32 => exact fun _ _ _ h => h
        case hy32 => first | (refine ry_notS ?_; rfl) | (refine ry_runS (by rfl) (fun w' hw' => ?_); go_simp; try rfl)
        simp only [Act.put, List.setIfInBounds_toArray, List.set_cons_zero, List.set_cons_succ]
        refine take0T (v := ?v33) (oi := ?o33) 9 ?hi33 (by kernel_rfl) (by kernel_rfl) (by kernel_rfl) ?hq33 ?hy33 ?_
        case hi33 => (simp only [List.getElem?_toArray, List.getElem?_cons_zero, List.getElem?_cons_succ]; rfl)
        case hq33 => exact fun _ _ _ h => h
        case hy33 => first | (refine ry_notS ?_; rfl) | (refine ry_runS (by rfl) (fun w' hw' => ?_); go_simp; try rfl)
        simp only [Act.put, List.setIfInBounds_toArray, List.set_cons_zero, List.set_cons_succ]
        refine take0T (v := ?v34) (oi := ?o34) 10 ?hi34 (by kernel_rfl) (by kernel_rfl) (by kernel_rfl) ?hq34 ?hy34 ?_
        case hi34 => (simp only [List.getElem?_toArray, List.getElem?_cons_zero, List.getElem?_cons_succ]; rfl)
        case hq34 => exact fun _ _ _ h => h
        case hy34 => first | (refine ry_notS ?_; rfl) | (refine ry_runS (by rfl) (fun w' hw' => ?_); go_simp; try rfl)
        simp only [Act.put, List.setIfInBounds_toArray, List.set_cons_zero, List.set_cons_succ]
        refine take0T (v := ?v35) (oi := ?o35) 11 ?hi35 (by kernel_rfl) (by kernel_rfl) (by kernel_rfl) ?hq35 ?hy35 ?_
        case hi35 => (simp only [List.getElem?_toArray, List.getElem?_cons_zero, List.getElem?_cons_succ]; rfl)
        case hq35 => exact fun _ _ _ h => h
        case hy35 => first | (refine ry_notS ?_; rfl) | (refine ry_runS (by rfl) (fun w' hw' => ?_); go_simp; try rfl)
        simp only [Act.put, List.setIfInBounds_toArray, List.set_cons_zero, List.set_cons_succ]
        refine take0T (v := ?v36) (oi := ?o36) 12 ?hi36 (by kernel_rfl) (by kernel_rfl) (by kernel_rfl) ?hq36 ?hy36 ?_
        case hi36 => (simp only [List.getElem?_toArray, List.getElem?_cons_zero, List.getElem?_cons_succ]; rfl)
        case hq36 => exact fun _ _ _ h => h
        case hy36 => first | (refine ry_notS ?_; rfl) | (refine ry_runS (by rfl) (fun w' hw' => ?_); go_simp; try rfl)
        simp only [Act.put, List.setIfInBounds_toArray, List.set_cons_zero, List.set_cons_succ]
        refine take0T (v := ?v37) (oi := ?o37) 13 ?hi37 (by kernel_rfl) (by kernel_rfl) (by kernel_rfl) ?hq37 ?hy37 ?_
        case hi37 => (simp only [List.getElem?_toArray, List.getElem?_cons_zero, List.getElem?_cons_succ]; rfl)
        case hq37 => exact fun _ _ _ h => h
        case hy37 => first | (refine ry_notS ?_; rfl) | (refine ry_runS (by rfl) (fun w' hw' => ?_); go_simp; try rfl)
        simp only [Act.put, List.setIfInBounds_toArray, List.set_cons_zero, List.set_cons_succ]
        refine take0T (v := ?v38) (oi := ?o38) 14 ?hi38 (by kernel_rfl) (by kernel_rfl) (by kernel_rfl) ?hq38 ?hy38 ?_
        case hi38 => (simp only [List.getElem?_toArray, List.getElem?_cons_zero, List.getElem?_cons_succ]; rfl)
        case hq38 => exact fun _ _ _ h => h
        case hy38 => first | (refine ry_notS ?_; rfl) | (refine ry_runS (by rfl) (fun w' hw' => ?_); go_simp; try rfl)
        simp only [Act.put, List.setIfInBounds_toArray, List.set_cons_zero, List.set_cons_succ]
        refine take0T (v := ?v39) (oi := ?o39) 15 ?hi39 (by kernel_rfl) (by kernel_rfl) (by kernel_rfl) ?hq39 ?hy39 ?_
        case hi39 => (simp only [List.getElem?_toArray, List.getElem?_cons_zero, List.getElem?_cons_succ]; rfl)
        case hq39 => exact fun _ _ _ h => h
        case hy39 => first | (refine ry_notS ?_; rfl) | (refine ry_runS (by rfl) (fun w' hw' => ?_); go_simp; try rfl)
        simp only [Act.put, List.setIfInBounds_toArray, List.set_cons_zero, List.set_cons_succ]
        refine take0T (v := ?v40) (oi := ?o40) 16 ?hi40 (by kernel_rfl) (by kernel_rfl) (by kernel_rfl) ?hq40 ?hy40 ?_
        case hi40 => (simp only [List.getElem?_toArray, List.getElem?_cons_zero, List.getElem?_cons_succ]; rfl)
        case hq40 => exact fun _ _ _ h => h
        case hy40 => first | (refine ry_notS ?_; rfl) | (refine ry_runS (by rfl) (fun w' hw' => ?_); go_simp; try rfl)
        simp only [Act.put, List.setIfInBounds_toArray, List.set_cons_zero, List.set_cons_succ]
        refine take0T (v := ?v41) (oi := ?o41) 17 ?hi41 (by kernel_rfl) (by kernel_rfl) (by kernel_rfl) ?hq41 ?hy41 ?_
        case hi41 => (simp only [List.getElem?_toArray, List.getElem?_cons_zero, List.getElem?_cons_succ]; rfl)
        case hq41 => exact fun _ _ _ h => h
        case hy41 => first | (refine ry_notS ?_; rfl) | (refine ry_runS (by rfl) (fun w' hw' => ?_); go_simp; try rfl)
        simp only [Act.put, List.setIfInBounds_toArray, List.set_cons_zero, List.set_cons_succ]
        refine take0T (v := ?v42) (oi := ?o42) 18 ?hi42 (by kernel_rfl) (by kernel_rfl) (by kernel_rfl) ?hq42 ?hy42 ?_
        case hi42 => (simp only [List.getElem?_toArray, List.getElem?_cons_zero, List.getElem?_cons_succ]; rfl)
        case hq42 => exact fun _ _ _ h => h
        case hy42 => first | (refine ry_notS ?_; rfl) | (refine ry_runS (by rfl) (fun w' hw' => ?_); go_simp; try rfl)
        simp only [Act.put, List.setIfInBounds_toArray, List.set_cons_zero, List.set_cons_succ]
        refine take0T (v := ?v43) (oi := ?o43) 19 ?hi43 (by kernel_rfl) (by kernel_rfl) (by kernel_rfl) ?hq43 ?hy43 ?_
        case hi43 => (simp only [List.getElem?_toArray, List.getElem?_cons_zero, List.getElem?_cons_succ]; rfl)
        case hq43 => exact fun _ _ _ h => h
        case hy43 => first | (refine ry_notS ?_; rfl) | (refine ry_runS (by rfl) (fun w' hw' => ?_); go_simp; try rfl)
        simp only [Act.put, List.setIfInBounds_toArray, List.set_cons_zero, List.set_cons_succ]
        refine take0T (v := ?v44) (oi := ?o44) 20 ?hi44 (by kernel_rfl) (by kernel_rfl) (by kernel_rfl) ?hq44 ?hy44 ?_
        case hi44 => (simp only [List.getElem?_toArray, List.getElem?_cons_zero, List.getElem?_cons_succ]; rfl)
        case hq44 => exact fun _ _ _ h => h
        case hy44 => first | (refine ry_notS ?_; rfl) | (refine ry_runS (by rfl) (fun w' hw' => ?_); go_simp; try rfl)
        simp only [Act.put, List.setIfInBounds_toArray, List.set_cons_zero, List.set_cons_succ]
        refine take0T (v := ?v45) (oi := ?o45) 21 ?hi45 (by kernel_rfl) (by kernel_rfl) (by kernel_rfl) ?hq45 ?hy45 ?_
        case hi45 => (simp only [List.getElem?_toArray, List.getElem?_cons_zero, List.getElem?_cons_succ]; rfl)
        case hq45 => exact fun _ _ _ h => h
        case hy45 => first | (refine ry_notS ?_; rfl) | (refine ry_runS (by rfl) (fun w' hw' => ?_); go_simp; try rfl)
        simp only [Act.put, List.setIfInBounds_toArray, List.set_cons_zero, List.set_cons_succ]
        refine take0T (v := ?v46) (oi := ?o46) 22 ?hi46 (by kernel_rfl) (by kernel_rfl) (by kernel_rfl) ?hq46 ?hy46 ?_
        case hi46 => (simp only [List.getElem?_toArray, List.getElem?_cons_zero, List.getElem?_cons_succ]; rfl)
        case hq46 => exact fun _ _ _ h => h
        case hy46 => first | (refine ry_notS ?_; rfl) | (refine ry_runS (by rfl) (fun w' hw' => ?_); go_simp; try rfl)
        simp only [Act.put, List.setIfInBounds_toArray, List.set_cons_zero, List.set_cons_succ]
        refine step0T (o := ?o47) 23 (by kernel_rfl) ?hi47 ?hw47 ?_
        case hi47 => (simp only [List.getElem?_toArray, List.getElem?_cons_zero, List.getElem?_cons_succ]; rfl)
        case hw47 => rfl
        refine appStr_step (.tmp 44) (.tmp 62) obj_bytes_t (fun i z hi hz => by cases hi; cases hz; rfl) Tryd.underlying9 B0 out x.data.length (bv x.data) (own_keep HR4.out.sp.own ((Mod.refl (fun _ => False) wc).drew) (fun _ _ _ h => h)) ⟨PC.toArray⟩ rfl rfl rfl (by unfold maxLen; omega) (by omega) (by show B0 ≤ wc.heap.size; omega) ?_
        intro v5 w5 ho5 hm5
        refine ⟨.inl (hm5.mono fun _ _ h => h.2), ?_⟩
        have hm5' : Mod (fun k => out.ownBlock = some k) wc w5 := Mod.of_drew_l (hm5.mono fun _ _ h => h.2)
        have hbx5 := HR4.out.sp.box.keep hm5' (fun h => HOB.out _ h (.inl rfl))
        obtain ⟨A5, c5, rfl, _, _, _, _⟩ := own_cells ho5
        have q0 := hbx5.cell (o := 3) rfl
        have r0 := hbx5.frozen 3
        simp only [Act.put, List.setIfInBounds_toArray, List.set_cons_zero, List.set_cons_succ]
        refine take0T (v := ?v48) (oi := ?o48) 24 ?hi48 (by kernel_rfl) (by kernel_rfl) (by kernel_rfl) ?hq48 ?hy48 ?_
        case hi48 => (simp only [List.getElem?_toArray, List.getElem?_cons_zero, List.getElem?_cons_succ]; rfl)
        case hq48 => exact fun _ _ _ h => h
        case hy48 => first | (refine ry_notS ?_; rfl) | (refine ry_runS (by rfl) (fun w' hw' => ?_); go_simp; try rfl)
        simp only [Act.put, List.setIfInBounds_toArray, List.set_cons_zero, List.set_cons_succ]
        refine take0T (v := ?v49) (oi := ?o49) 25 ?hi49 (by kernel_rfl) (by kernel_rfl) (by kernel_rfl) ?hq49 ?hy49 ?_
        case hi49 => (simp only [List.getElem?_toArray, List.getElem?_cons_zero, List.getElem?_cons_succ]; rfl)
        case hq49 => exact fun _ _ _ h => h
        case hy49 => first | (refine ry_notS ?_; rfl) | (refine ry_runS (by rfl) (fun w' hw' => ?_); go_simp; try rfl)
        simp only [Act.put, List.setIfInBounds_toArray, List.set_cons_zero, List.set_cons_succ]
        refine step0T (o := ?o50) 26 (by kernel_rfl) ?hi50 ?hw50 ?_
        case hi50 => (simp only [List.getElem?_toArray, List.getElem?_cons_zero, List.getElem?_cons_succ]; rfl)
        case hw50 => rfl
        go_simp
        refine ⟨.inr (by kernel_rfl), ?_⟩
        refine wpAnyT_done (by kernel_rfl) ?_
        clear fv0 fv1 fv2 fv3
        have hm6 : Mod (fun k => k = bs ∨ out.ownBlock = some k) wc (w5.setCell ⟨bs, 3, none⟩ (.slice A5 (x.data.length + PC.length) c5)) := (hm5'.mono (S' := fun k => k = bs ∨ out.ownBlock = some k) fun _ _ h => .inr h).setCell (p := ⟨bs, 3, none⟩) (.inl (.inl rfl)) _
        have hle := H0.out.sp.le
        have hbB : ∀ k, (k = bs ∨ out.ownBlock = some k) → Ty G.B tR wc k ∧ ¬ R G.B wc k := fun k hk => by
          rcases hk with rfl | hk
          · exact ⟨Ty.has HR4.out.sp.box hle.2 (by decide), R.not ⟨_, _, HR4.out.sp.box⟩ hle.2 (by decide) (by decide) (by decide) (by decide)⟩
          · have h1 := own_row HR4.out.sp.own hk
            have h2 := (HR4.out.sp.own.lt k hk).1
            exact ⟨Ty.row h1 (by omega) (by decide), R.not h1 (by omega) (by decide) (by decide) (by decide) (by decide)⟩
        have hI6 := ok.keep _ _ _ _ HR4.out.inv hm6 (fun k hk h => (hbB k h).2 hk)
        have hM6 := Ty.trans HR4.out.mod (hm6.mono fun k _ h => (hbB k h).1)
        have hsp6 : SpIs G B0 bs lo hi (.slice A5 (x.data.length + PC.length) c5) (x.data ++ PC) (w5.setCell ⟨bs, 3, none⟩ (.slice A5 (x.data.length + PC.length) c5)) := by
          refine ⟨hbx5.set 3 _, ?_, hle⟩
          have ho6 := own_store ho5 hbx5 (by decide) 3 (.slice A5 (x.data.length + PC.length) c5)
          rw [List.length_append, bv_append]
          exact ho6
        have hy := HY2.out
        subst hy
        have HI6 := Lib.hid hI6
        have HM6 := Lib.hid hM6
        have HS6 := Lib.hid hsp6
        clear hm6 hbB hI6 hM6 hsp6 hm5' hm5 ho5 hbx5
        go_wp2_with fail
        go_ret
        exact ⟨by show _ = Ending.returned (Value.int .i64 x.bad); rw [H0.out.bad]; rfl, ⟨_, HS6.out⟩, HI6.out, HM6.out⟩
      | fan L kids =>
        have hfl := fan_level HNN.out
        dsimp only at hy
        simp only [show ndE (Node.fan L kids) = 0 from rfl, show ndS (Node.fan L kids) = ⟨#[]⟩ from rfl]
        simp only [show ndL (Node.fan L kids) = L from rfl] at x3
        have hown := HR4.out.own
        rw [show ndK (Node.fan L kids) = kids from rfl] at hown
        have hbox := HR4.out.box
        rw [show ndL (Node.fan L kids) = L from rfl] at hbox
        obtain ⟨Av, cv, rfl, _, hck, _, _⟩ := own_cells hown
        have hkl : kids.length ≤ 32 := hfl.2.2.2.2.1
        have b1 : (L == 0) = false := beq_eq_false_iff_ne.2 (by omega)
        have hL1 : 1 ≤ L := hfl.2.1
        have hL2 : L ≤ 20 := hfl.2.2.1
        have hr0 : RfIs G objs B0 bs lo hi L kids at_ (x.ask p.id) b11 (.slice Av kids.length cv) w 0 at_ wc :=
          ⟨by simp [sizes], by simpa [rdF_nil, BS.ask] using H0.out.bad, HR4.out.inv, ⟨out, HR4.out.sp⟩, HR4.out.mod, hbox, hown⟩
        have HR0 := Lib.hid hr0
        have HFL := Lib.hid hfl
        have HY2 := Lib.hid hy
        clear hr0 hfl hy hown hbox hck
        go_wp2_with fail
        go_loopw [2, 69] (fun av i wr => ∃ (j : Nat) (a : Int), i = .int .i64 j ∧ av = .int .i64 a ∧ j ≤ kids.length ∧ Hid (RfIs G objs B0 bs lo hi L kids at_ (x.ask p.id) b11 (.slice Av kids.length cv) w j a wr)) (fun _ i _ => kids.length - (intOf i).toNat)
        case atStart => exact ⟨0, at_, by go_num, rfl, by omega, HR0⟩
        case round =>
          obtain ⟨j, a, rfl, rfl, hj, HF⟩ := hrel
          by_cases hjl : j < kids.length
          · have j1 : (j : Int) < (kids.length : Int) := by omega
            have j0 : (0 : Int) ≤ (j : Int) := by omega
            obtain ⟨A2, c2, he, _, hck, _, _⟩ := own_cells HF.out.own
            obtain ⟨rfl, rfl⟩ : Av = A2 ∧ cv = c2 := by simpa using he
            clear he
            rcases hck with h | ⟨bb, b5, rfl, hc5⟩
            · have := flat_len pc_len kids; rw [h] at this; simp at this; omega
            have z0 := hc5 _ _ (flat_get pc_len kids j 0 hjl (by omega))
            have z1 := hc5 _ _ (flat_get pc_len kids j 1 hjl (by omega))
            rw [Nat.add_zero] at z0
            rw [← Nat.add_assoc] at z1
            obtain ⟨out', hpre⟩ := HF.out.next ok hjl ⟨HFL.out.1, hL1, hL2⟩ HFL.out.2.2.2.2.2.1 HFL.out.2.2.2.2.2.2 hat hend hsz H0.out.nask H0.out.ndat H0.out.base (.cells #[.string kids[j].id, .int .i64 kids[j].size] 25)
            have HCA := Lib.hid (HIH.out L hL1 hL2 HFL.out.1 _ _ _ _ _ hpre)
            have hst := sizes_snoc hjl
            have hsn : rdF objs lo hi (L - 1).toNat (kids.take (j + 1)) at_ (x.ask p.id) = (a + kids[j].size, rdS objs lo hi (L - 1).toNat kids[j] a (rdF objs lo hi (L - 1).toNat (kids.take j) at_ (x.ask p.id)).2) := by
              rw [List.take_succ_eq_append_getElem hjl, rdF_snoc, rdF_at, ← HF.out.eqn]
            have hpe := hpre.ends
            have hpa := hpre.at0
            have hps := hpre.size
            have d0 := HF.out.box.cell (o := 0) rfl
            have hdl := HF.out.box.lt
            have hkb := Has.new wr [.string kids[j].id, .int .i64 kids[j].size] 25
            have y0 := hkb.cell (o := 0) rfl
            have y1 := hkb.cell (o := 1) rfl
            have HST := Lib.hid hst
            have HSN := Lib.hid hsn
            have HKB := Lib.hid hkb
            generalize kids[j] = k at *
            have hw1 : IntKind.i64.wrap (L - 1) = L - 1 := by rw [IntKind.wrap_i64]; omega
            clear hpre hst hsn hkb hc5
            go_wp2_with fail
            refine HCA.out.mono ?_
            rintro e w6 ⟨rfl, ⟨out6, hsp6⟩, hI6, hm6⟩
            obtain ⟨y, hy⟩ : ∃ y, rdS objs lo hi (L - 1).toNat k a (rdF objs lo hi (L - 1).toNat (kids.take j) at_ (x.ask p.id)).2 = y := ⟨_, rfl⟩
            have hsn := HSN.out
            simp only [hy] at hsn hsp6 hI6 ⊢
            have hmA : Mod (Ty G.B tR wr) wr (wr.alloc (.cells #[.string k.id, .int .i64 k.size] 25)) := (Mod.refl _ _).alloc _
            have hmB := Ty.trans HF.out.mod (Ty.trans hmA hm6)
            have hbx6 := (HF.out.box.alloc (.cells #[.string k.id, .int .i64 k.size] 25)).keep hm6 (Ty.not (Has.row (HF.out.box.alloc _)) (by decide))
            have hown6 := own_keep (HF.out.own.alloc (.cells #[.string k.id, .int .i64 k.size] 25)) hm6 (fun g _ hg => Ty.not (own_row (HF.out.own.alloc _) hg) (by decide))
            have hkb6 := HKB.out.keep hm6 (Ty.not (Has.row HKB.out) (by decide))
            have q1 := hkb6.cell (o := 1) rfl
            have heq := HF.out.eqn
            have HI6 := Lib.hid hI6
            have HS6 := Lib.hid hsp6
            have HM6 := Lib.hid hmB
            have HB6 := Lib.hid hbx6
            have HO6 := Lib.hid hown6
            have HSN2 := Lib.hid hsn
            have HEQ := Lib.hid heq
            clear hy hsn hsp6 hI6 hmA hmB hbx6 hown6 hkb6 hm6 heq y0 y1 z0 z1 HSN HCA HKB
            by_cases hb0 : y.bad = 0
            · have b2 : (y.bad != 0) = false := by simpa using hb0
              have hnx : RfIs G objs B0 bs lo hi L kids at_ (x.ask p.id) b11 (.slice (some ⟨bb, b5, none⟩) kids.length cv) w (j + 1) (a + k.size) w6 :=
                ⟨by rw [HST.out, HEQ.out]; omega, by rw [HSN2.out]; exact hb0, by rw [HSN2.out]; exact HI6.out, ⟨out6, by rw [HSN2.out]; exact HS6.out⟩, HM6.out, HB6.out, HO6.out⟩
              have HNX := Lib.hid hnx
              clear hnx hb0
              go_wp2_with fail
              go_roundw
              case rel => exact ⟨j + 1, a + k.size, by go_num, rfl, by omega, HNX⟩
              case measure => simp [intOf]; omega
            · have b2 : (y.bad != 0) = true := by simpa using hb0
              have hy2 := HY2.out
              rw [← List.take_append_drop (j + 1) kids, rdF_append, HSN2.out, rdF_bad objs lo hi _ _ _ _ hb0] at hy2
              subst hy2
              clear hb0
              go_wp2_with fail
              go_ret
              exact ⟨rfl, ⟨out6, HS6.out⟩, HI6.out, HM6.out⟩
          · have hjk : j = kids.length := by omega
            have j1 : ¬ (j : Int) < (kids.length : Int) := by omega
            have hy := HY2.out
            have hbad := HF.out.bad
            have hinv := HF.out.inv
            obtain ⟨out9, hsp9⟩ := HF.out.sp
            have hmm := HF.out.mod
            rw [hjk, List.take_length] at hbad hinv hsp9
            rw [hy] at hbad hinv hsp9
            have HI9 := Lib.hid hinv
            have HS9 := Lib.hid hsp9
            have HM9 := Lib.hid hmm
            have HB9 := Lib.hid hbad
            clear hy hbad hinv hsp9 hmm
            go_wp2_with fail
            go_ret
            exact ⟨by rw [HB9.out]; rfl, ⟨out9, HS9.out⟩, HI9.out, HM9.out⟩
  · rw [show decide (at_ < hi ∧ lo < at_ + p.size) = false from decide_eq_false hme]
    have hrd : Y = x := by rw [← HY.out]; unfold rdB; rw [if_pos (.inr hme)]
    subst hrd
    go_wp2_with fail
    go_ret
    have hm := Mod.trans HM1.out hm2 (fun _ _ h => h)
    exact ⟨by rw [H0.out.bad]; rfl, ⟨out, H0.out.sp.keep hm (fun h => h) (fun _ _ h => h)⟩, ok.keep _ _ _ _ H0.out.inv hm (fun _ _ h => h), hm.mono fun _ _ h => h.elim⟩
theorem read_calls {G : Gt} {objs : List Ob} (ok : GtOk G objs) (hob : ObsOk objs) {B0 bs : Nat} {lo hi : Int} (hlo : 0 ≤ lo ∧ lo ≤ hi ∧ hi ≤ 262144) : ∀ (l : Nat), l ≤ 20 → ∀ (p : Part) (at_ : Int) (x : BS) (out : Value) (w : World), RdPre G B0 bs lo hi (l : Int) p at_ x out w →
    Calls Tryd.prog 31 #[.pointer (some ⟨bs, 0, none⟩), .agg #[.string p.id, .int .i64 p.size], .int .i64 at_, .int .i64 (l : Int)] w (RdPost G B0 bs lo hi (rdS objs lo hi l p at_ x) w)
  | 0, _, p, at_, x, out, w, h => by
    rw [rdS_eq]
    exact read_step ok hob hlo _ (by omega) (fun L h1 h2 h3 => by omega) p at_ x out w h
  | l + 1, hl, p, at_, x, out, w, h => by
    rw [rdS_eq]
    refine read_step ok hob hlo _ (by omega) (fun L h1 h2 h3 p' a' x' o' w' h' => ?_) p at_ x out w h
    have e : L - 1 = (l : Int) := by omega
    rw [e] at h' ⊢
    rw [show ((l : Int)).toNat = l by omega]
    exact read_calls ok hob hlo l (by omega) p' a' x' o' w' h'
theorem readR_calls {G : Gt} {objs : List Ob} (ok : GtOk G objs) (hob : ObsOk objs) {B0 bs : Nat} {lo hi : Int} (hlo : 0 ≤ lo ∧ lo ≤ hi ∧ hi ≤ 262144) (p : Part) (x : BS) (out : Value) (w : World) (h : RdPre G B0 bs lo hi (-1) p 0 x out w) (hm : 0 < hi ∧ lo < p.size) :
    Calls Tryd.prog 31 #[.pointer (some ⟨bs, 0, none⟩), .agg #[.string p.id, .int .i64 p.size], .int .i64 0, .int .i64 (-1)] w (RdPost G B0 bs lo hi (rdR objs lo hi p x) w) := by
  rw [← rdR_eq objs lo hi p x h.bad hm]
  refine read_step ok hob hlo (-1) (by omega) (fun L h1 h2 _ p' a' x' o' w' h' => ?_) p 0 x out w h
  have e : L - 1 = ((L - 1).toNat : Int) := by omega
  have := read_calls ok hob hlo (L - 1).toNat (by omega) p' a' x' o' w' (by rw [← e]; exact h')
  rw [← e] at this
  exact this
end Blob
end Go.Proofs.YthgcjfpaekpeeaaDoor
