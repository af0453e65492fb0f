/- The walks of the net: next, turned, a way. -/
import Derived.Test.YtocpifoimoaibaaNetK
import Derived.Deep.Cut
import Derived.Laws.BitsAllLaws
import Derived.RegionTactic
namespace Go.Proofs.Ytocpifoimoaibaa
set_option linter.unusedVariables false
set_option linter.unusedSimpArgs false
open Go.RowKit K
namespace Net

set_option maxRecDepth 100000 in
theorem T_str : SliceT Try.prog 23 9 1 16 := ⟨Try.underlying23, by decide, _, .string ByteArray.empty, rfl, rfl, rfl, rfl, rfl⟩
set_option maxRecDepth 100000 in
theorem T_fate : SliceT Try.prog 22 35 3 24 := ⟨Try.underlying22, by decide, _, .agg #[.int .i64 0, .int .i64 0, .int .u8 0], rfl, rfl, rfl, rfl, rfl⟩

/-- fates' numbers are whole numbers of the machine's -/
def FWf (l : List Fate) : Prop := ∀ f ∈ l, -9223372036854775808 ≤ f.k ∧ f.k ≤ 9223372036854775807 ∧ -9223372036854775808 ≤ f.a ∧ f.a ≤ 9223372036854775807

/-- the fates stand in memory from A on -/
structure FatesAt (w : World) (A : Option Addr) (c : Nat) (l : List Fate) : Prop where
  cells : Cells w A (fcs l)
  cap : l.length ≤ c
  max : c ≤ maxLen
  adr : Adr A c
  row : ∀ a, A = some a → ∃ cur fr, w.heap[a.block]? = some (.cells cur 35 fr)

theorem has_ne {w : World} {b g : Nat} {cs : List Value} {T U : TypeId} (h : Has w b cs T) (k : ∃ cur fr, w.heap[g]? = some (.cells cur U fr)) (hT : T ≠ U) : g ≠ b := by
  rintro rfl
  obtain ⟨cur, fr, k⟩ := k
  rw [Has, k] at h
  simp at h
  exact hT h.2.1.symm
theorem has_ne2 {w : World} {b g : Nat} {cs ds : List Value} {T U : TypeId} (h : Has w b cs T) (k : Has w g ds U) (hT : T ≠ U) : g ≠ b := has_ne h ⟨_, _, k⟩ hT
def netT (fs serve there back : Value) (sent : Nat) : List Value := [fs, serve, there, back, .int .i64 (sent : Int)]

set_option maxRecDepth 100000 in
theorem next_none (bn : Nat) (serve there back : Value) (sent : Nat) (A : Option Addr) (c : Nat) (w : World) (hn : Has w bn (netT (.slice A 0 c) serve there back sent) 48) :
    Calls Try.prog 26 #[.pointer (some ⟨bn, 0, none⟩)] w fun e w' => e = .returned (.agg #[.int .i64 0, .int .i64 0, .int .u8 0]) ∧ Mod (fun _ => False) w w' := by
  have h0 := hn.cell (o := 0) rfl
  have hlt := hn.lt
  clear hn
  go_enter Try.func26, Try.ntmps26
  go_wp2_with fail
  refine bodyPost_ret (v := .agg #[.int .i64 0, .int .i64 0, .int .u8 0]) (by simp [results, Try.results26, go_sem]) rfl ⟨rfl, ?_⟩
  (repeat (first | with_reducible exact Mod.refl _ _ | with_reducible apply Mod.drew | with_reducible apply Mod.drewN | with_reducible apply Mod.alloc | refine Mod.set1 ?_ (by first | exact rfl | simp) _ _))

/-- the fates' row stays -/
def SameRow (A A' : Option Addr) : Prop := ∀ a', A' = some a' → ∃ a, A = some a ∧ a'.block = a.block
theorem FatesAt.tail {w : World} {b o c : Nat} {f : Fate} {l : List Fate} (h : FatesAt w (some ⟨b, o, none⟩) c (f :: l)) : FatesAt w (some ⟨b, o + 3, none⟩) (c - 1) l := by
  obtain ⟨hc, hcap, hmax, hadr, hrow⟩ := h
  refine ⟨.inr ⟨b, o + 3, rfl, fun j u hj => ?_⟩, by simp at hcap; omega, by omega, .inr ⟨_, _, rfl⟩, fun a ha => by obtain rfl := Option.some.inj ha; exact hrow ⟨b, o, none⟩ rfl⟩
  rcases hc with hc | ⟨b', o', hA, hc⟩
  · cases hc
  · obtain ⟨rfl, rfl⟩ : b = b' ∧ o = o' := by simpa using hA
    have := hc (j + 3) u (by rw [← hj]; rfl)
    rw [show o + (j + 3) = o + 3 + j by omega] at this
    exact this
theorem FatesAt.keep {w w' : World} {S : Nat → Prop} {A : Option Addr} {c : Nat} {l : List Fate} (h : FatesAt w A c l) (m : Mod S w w') (hs : ∀ a, A = some a → ¬ S a.block) : FatesAt w' A c l :=
  ⟨h.cells.keep m hs, h.cap, h.max, h.adr, fun a ha => by
    obtain ⟨cur, fr, hr⟩ := h.row a ha
    have hlt : a.block < w.heap.size := (Array.getElem?_eq_some_iff.1 hr).1
    exact ⟨cur, fr, (m.block _ hlt (hs a ha)).trans hr⟩⟩
def NextPost (bn : Nat) (serve there back : Value) (sent : Nat) (A : Option Addr) (c : Nat) (f : Fate) (l : List Fate) (w : World) (e : Ending) (w' : World) : Prop :=
  e = .returned (.agg #[.int .i64 f.k, .int .i64 f.a, .int .u8 (f.b.toNat : Int)]) ∧
      ∃ A', Has w' bn (netT (.slice A' l.length (c - 1)) serve there back sent) 48 ∧ FatesAt w' A' (c - 1) l ∧ SameRow A A' ∧ Mod (fun k => k = bn) w w'

set_option maxRecDepth 100000 in
theorem next_some (bn : Nat) (serve there back : Value) (sent : Nat) (A : Option Addr) (c : Nat) (f : Fate) (l : List Fate) (w : World) (hn : Has w bn (netT (.slice A (l.length + 1) c) serve there back sent) 48) (hf : FatesAt w A c (f :: l)) :
    Calls Try.prog 26 #[.pointer (some ⟨bn, 0, none⟩)] w (NextPost bn serve there back sent A c f l w) := by
  have h0 := hn.cell (o := 0) rfl
  have hf0 := hn.frozen 0
  have hlt := hn.lt
  have HF := Lib.hid hf
  obtain ⟨hc, hcap, hmax, hadr, hrow⟩ := hf
  obtain ⟨b, o, rfl, hcell⟩ : ∃ b o, A = some ⟨b, o, none⟩ ∧ ∀ j u, (fcs (f :: l))[j]? = some u → w.cell? ⟨b, o + j, none⟩ = some u := by
    rcases hc with hc | h
    · cases hc
    · exact h
  have g := fcs_get (f :: l) 0 (by simp)
  have c0 := hcell _ _ g.1
  have c1 := hcell _ _ g.2.1
  have c2 := hcell _ _ g.2.2
  simp only [Nat.zero_mul, Nat.zero_add, Nat.add_zero, List.getElem_cons_zero] at c0 c1 c2
  have hbl : b < w.heap.size := World.block_lt_of_cell? w _ c0
  have HC := Lib.hid hcell
  have HN := Lib.hid hn
  have hl1 : (0 : Int) < (l.length : Int) + 1 := by omega
  have hne : b ≠ bn := has_ne hn (hrow _ rfl) (by decide)
  clear hcell hn g hc
  go_enter Try.func26, Try.ntmps26
  go_wp2_with fail
  · have hc1 : c = 1 := by assumption
    refine bodyPost_ret (v := .agg #[.int .i64 f.k, .int .i64 f.a, .int .u8 (f.b.toNat : Int)]) (by simp [results, Try.results26, go_sem]) rfl ⟨rfl, ?_⟩
    have hl0 : l = [] := List.eq_nil_of_length_eq_zero (by simp at hcap; omega)
    subst hl0
    obtain ⟨hc, -, -, -, hrow⟩ := HF.out
    have hM : Mod (fun k => k = bn) w (((w.setCell ⟨bn, 0, none⟩ (.slice (some ⟨b, o, none⟩) ([] : List Fate).length 0)).alloc (Obj.cells #[.int .i64 f.k, .int .i64 f.a, .int .u8 (f.b.toNat : Int)] 35)).alloc (Obj.cells #[.int .i64 f.k, .int .i64 f.a, .int .u8 (f.b.toNat : Int)] 35)) := by (repeat (first | with_reducible exact Mod.refl _ _ | with_reducible apply Mod.drew | with_reducible apply Mod.drewN | with_reducible apply Mod.alloc | refine Mod.set1 ?_ (by first | exact rfl | simp) _ _))
    refine ⟨some ⟨b, o, none⟩, ((HN.out.set 0 _).alloc _).alloc _, ⟨.inl rfl, Nat.zero_le _, by omega, .inr ⟨_, _, rfl⟩, fun a ha => ?_⟩, fun a' ha => ⟨_, rfl, by rw [← Option.some.inj ha]⟩, hM⟩
    obtain ⟨cur, fr, hr⟩ := hrow a ha
    obtain rfl := Option.some.inj ha
    exact ⟨cur, fr, (hM.block _ hbl hne).trans hr⟩
  · refine bodyPost_ret (v := .agg #[.int .i64 f.k, .int .i64 f.a, .int .u8 (f.b.toNat : Int)]) (by simp [results, Try.results26, go_sem]) rfl ⟨rfl, ?_⟩
    have hM : Mod (fun k => k = bn) w (((w.setCell ⟨bn, 0, none⟩ (.slice (some ⟨b, o + 3, none⟩) l.length (c - 1))).alloc (Obj.cells #[.int .i64 f.k, .int .i64 f.a, .int .u8 (f.b.toNat : Int)] 35)).alloc (Obj.cells #[.int .i64 f.k, .int .i64 f.a, .int .u8 (f.b.toNat : Int)] 35)) := by (repeat (first | with_reducible exact Mod.refl _ _ | with_reducible apply Mod.drew | with_reducible apply Mod.drewN | with_reducible apply Mod.alloc | refine Mod.set1 ?_ (by first | exact rfl | simp) _ _))
    exact ⟨some ⟨b, o + 3, none⟩, ((HN.out.set 0 _).alloc _).alloc _, HF.out.tail.keep hM (fun a ha => by rw [← Option.some.inj ha]; exact hne), fun a' ha => ⟨_, rfl, by rw [← Option.some.inj ha]⟩, hM⟩
/-- the net's block and its fates -/
def NetHas (w : World) (bn : Nat) (serve there back : Value) (sent : Nat) (A : Option Addr) (c : Nat) (l : List Fate) : Prop :=
  Has w bn (netT (.slice A l.length c) serve there back sent) 48 ∧ FatesAt w A c l
def NextAny (bn : Nat) (serve there back : Value) (sent : Nat) (A : Option Addr) (l : List Fate) (w : World) (e : Ending) (w' : World) : Prop :=
  e = .returned (.agg #[.int .i64 (l.headD fate0).k, .int .i64 (l.headD fate0).a, .int .u8 ((l.headD fate0).b.toNat : Int)]) ∧
      ∃ A' c', NetHas w' bn serve there back sent A' c' l.tail ∧ SameRow A A' ∧ Mod (fun k => k = bn) w w'
theorem next_calls (bn : Nat) (serve there back : Value) (sent : Nat) (A : Option Addr) (c : Nat) (l : List Fate) (w : World) (h : NetHas w bn serve there back sent A c l) :
    Calls Try.prog 26 #[.pointer (some ⟨bn, 0, none⟩)] w (NextAny bn serve there back sent A l w) := by
  obtain ⟨hn, hf⟩ := h
  cases l with
  | nil =>
    refine (next_none bn serve there back sent A c w hn).mono fun e w' ⟨he, hm⟩ => ⟨he, A, c, ⟨hn.keep hm (fun h => h), hf.keep hm (fun _ _ h => h)⟩, fun a h => ⟨a, h, rfl⟩, hm.mono fun _ _ h => h.elim⟩
  | cons f l =>
    refine (next_some bn serve there back sent A c f l w hn hf).mono fun e w' ⟨he, A', h1, h2, h3, h4⟩ => ⟨he, A', c - 1, ⟨h1, h2⟩, h3, h4⟩

/-- []byte(text), which may be written -/
theorem to_bytes (s : ByteArray) (w : World) (hEm : s.size ≤ maxLen) : ∃ c w', (convert 9 42 (.string s)).run Try.prog w = .ok (.slice (some ⟨w.heap.size, 0, none⟩) s.size c) w' ∧
    Mod (fun _ => False) w w' ∧ (∀ j u, (bv s.data.toList)[j]? = some u → w'.cell? ⟨w.heap.size, j, none⟩ = some u) ∧ s.size ≤ c ∧ c ≤ maxLen ∧ w.heap.size < w'.heap.size ∧ (∀ j, j < s.size → w'.frozen? ⟨w.heap.size, j, none⟩ = false) := by
  have h := Lib.run_convert_string_bytes (P := Try.prog) w 9 42 5 s Try.underlying9 Try.underlying42 Try.underlying5
  refine ⟨_, _, h, bytesWorld_mod (Mod.refl _ _) _ _, ?_, ?_, ?_, ?_, ?_⟩
  · rcases bytesWorld_cells w 5 s with h | ⟨b, o, hA, hc⟩
    · intro j u hj; rw [h] at hj; simp at hj
    · obtain ⟨rfl, rfl⟩ : w.heap.size = b ∧ 0 = o := by simpa using hA
      intro j u hj; have := hc j u hj; rwa [Nat.zero_add] at this
  · exact grownCap_ge w s.size 0 5
  · exact grownCap_le_maxLen w s.size 0 5 hEm
  · rw [Lib.bytesWorld_size]; exact Nat.lt_succ_self _
  · intro j hj
    have hs : (Lib.bytesCells w 5 s).size = grownCap w s.size 0 5 := by
      simp [Lib.bytesCells]
      have h1 : s.data.size = s.size := rfl
      have h2 := grownCap_ge w s.size 0 5
      omega
    have h2 := grownCap_ge w s.size 0 5
    simp only [World.frozen?]
    rw [Lib.bytesWorld_at_new, hs]
    simp; omega

theorem xor_u8 (a b : UInt8) : Go.bits .xor .u8 (a.toNat : Int) (b.toNat : Int) = ((a ^^^ b).toNat : Int) := by
  rw [u8_xor_nat _ _ a.toNat_lt b.toNat_lt, UInt8.toNat_xor]
theorem not_neg (a : Int) (h : a < 0) (h2 : -9223372036854775808 ≤ a) : Go.bits .xor .i64 (-1) a = -1 - a := by
  show IntKind.i64.wrap (((BitVec.ofInt 64 (-1)) ^^^ (BitVec.ofInt 64 a)).toNat : Int) = -1 - a
  have h1 : BitVec.ofInt 64 (-1) = BitVec.allOnes 64 := by decide
  rw [h1, BitVec.allOnes_xor, BitVec.toNat_not, BitVec.toNat_ofInt, IntKind.wrap_i64]
  omega

set_option maxRecDepth 100000 in
theorem turned_calls (s : ByteArray) (f : Fate) (w : World) (hs : s.size ≤ maxLen) (h0 : 0 < s.size) (ha1 : -9223372036854775808 ≤ f.a) (ha2 : f.a ≤ 9223372036854775807) :
    Calls Try.prog 27 #[.string s, .agg #[.int .i64 f.k, .int .i64 f.a, .int .u8 (f.b.toNat : Int)]] w fun e w' => e = .returned (.string (trnB s f.a f.b)) ∧ Mod (fun _ => False) w w' := by
  obtain ⟨c1, w1, hE, hM1, hC1, hN1, hx1, hg1, hf1⟩ := to_bytes s (w.alloc (.cells #[.int .i64 f.k, .int .i64 f.a, .int .u8 (f.b.toNat : Int)] 35)) hs
  rw [size_alloc] at hE hC1 hg1 hf1
  have hB := (Has.new w [.int .i64 f.k, .int .i64 f.a, .int .u8 (f.b.toNat : Int)] 35).keep hM1 (fun h => h)
  have b1 := hB.cell (o := 1) rfl
  have b2 := hB.cell (o := 2) rfl
  have hm0 : Mod (fun _ => False) w w1 := Mod.trans (Mod.alloc (Mod.refl _ _) _) hM1 (fun _ _ h => h)
  have hsz1 := hm0.size
  have hlen : s.data.toList.length = s.size := by simp
  unfold maxLen at hs
  have hx0 : 0 ≤ (if f.a < 0 then -1 - f.a else f.a) := by split <;> omega
  obtain ⟨m, hm⟩ : ∃ m : Nat, (if f.a < 0 then -1 - f.a else f.a) = (m : Int) := ⟨_, (Int.toNat_of_nonneg hx0).symm⟩
  have hmb : (m : Int) ≤ 9223372036854775807 := by rw [← hm]; split <;> omega
  obtain ⟨p, hp⟩ : ∃ p, p = m % s.size := ⟨_, rfl⟩
  have hpl : p < s.size := by rw [hp]; exact Nat.mod_lt _ h0
  have hpp : place s.data.toList.length f.a = p := by
    unfold place; rw [hm, hlen, hp]; exact (by omega : ((m : Int) % (s.size : Int)).toNat = m % s.size)
  have htrn : trnB s f.a f.b = ⟨(s.data.toList.set p (s.data.toList.getD p 0 ^^^ f.b)).toArray⟩ := by unfold trnB trn; rw [hpp]
  have cp := hC1 p _ (bv_get _ p (by omega))
  have fp := hf1 p hpl
  have hmp : (m : Int) % (s.size : Int) = (p : Int) := by omega
  have hgd : s.data.toList.getD p 0 = s.data.toList[p] := by simp [List.getD, hlen, hpl]
  rw [hgd] at htrn
  generalize s.data.toList[p] = x at *
  have hw2 : Cells (w1.setCell ⟨w.heap.size + 1, p, none⟩ (.int .u8 (Go.bits .xor .u8 (x.toNat : Int) (f.b.toNat : Int)))).drew (some ⟨w.heap.size + 1, 0, none⟩) (bv (s.data.toList.set p (x ^^^ f.b))) := by
    refine .inr ⟨_, 0, rfl, fun j u hj => ?_⟩
    rw [Nat.zero_add]
    show (w1.setCell _ _).cell? _ = _
    by_cases hjp : j = p
    · subst hjp
      rw [bv_get _ _ (by rw [List.length_set]; omega)] at hj
      rw [← Option.some.inj hj]
      rw [xor_u8]; simp [World.cell?_setCell_same, cp, UInt8.toNat_xor]
    · rw [World.cell?_setCell_other (h := by intro h; exact hjp (by simpa using h.symm))]
      refine hC1 j u ?_
      rw [← hj]
      simp [bv, List.getElem?_set, Ne.symm hjp]
  have hcv := run_bytes (P := Try.prog) c1 hw2 42 9 5 Try.underlying42 Try.underlying5 Try.underlying9
  rw [List.length_set, hlen] at hcv
  have hM2 : Mod (fun _ => False) w (w1.setCell ⟨w.heap.size + 1, p, none⟩ (.int .u8 (Go.bits .xor .u8 (x.toNat : Int) (f.b.toNat : Int)))).drew := (hm0.setCell (p := ⟨w.heap.size + 1, p, none⟩) (.inr (Nat.le_succ _)) _).drew
  have HM := Lib.hid hM2
  have HT := Lib.hid htrn
  have hs63 : (s.size : Int) ≤ 9223372036854775807 := by omega
  clear hB hM1 hp hC1 hf1 hm0 hM2 htrn hw2 hgd hpp hx0
  by_cases hneg : f.a < 0
  · have hnn := not_neg f.a hneg ha1
    rw [if_pos hneg] at hm
    rw [hm] at hnn
    clear hm
    have HH := Lib.hid hnn
    have hpi : (p : Int) < (s.size : Int) := by omega
    have hs0 : ¬ (s.size : Int) = 0 := by omega
    go_enter Try.func27, Try.ntmps27
    go_wp2_with fail
    go_region
    go_wp2_with fail
    go_ret
    exact ⟨by rw [HT.out]; rfl, HM.out⟩
  · rw [if_neg hneg] at hm
    have ha0 : (0 : Int) ≤ f.a := by omega
    have hpi : (p : Int) < (s.size : Int) := by omega
    have hs0 : ¬ (s.size : Int) = 0 := by omega
    rw [hm] at b1 hneg
    generalize f.a = fa at *
    subst hm
    clear ha0 ha1 ha2
    go_enter Try.func27, Try.ntmps27
    go_wp2_with fail
    go_region
    go_wp2_with fail
    go_ret
    exact ⟨by rw [HT.out]; rfl, HM.out⟩
def hd (l : List Fate) : Fate := l.headD fate0
theorem hd_wf {l : List Fate} (h : FWf l) : -9223372036854775808 ≤ (hd l).k ∧ (hd l).k ≤ 9223372036854775807 ∧ -9223372036854775808 ≤ (hd l).a ∧ (hd l).a ≤ 9223372036854775807 := by
  cases l with
  | nil => simp [hd, fate0]
  | cons f l => exact h f (by simp)

/-- a way: its net, what waits on it -/
structure WayAt (w : World) (bn b1 ww : Nat) (v : Value) (waits : List ByteArray) : Prop where
  box : Has w b1 [.pointer (some ⟨bn, 0, none⟩)] 26
  var : Has w ww [v] 23
  own : w.ownsRow 0 9 1 v waits.length (sv waits)
def WayPost (bn : Nat) (serve there back : Value) (sent : Nat) (A : Option Addr) (l : List Fate) (b1 ww : Nat) (v : Value) (out waits : List ByteArray) (w : World) (e : Ending) (w' : World) : Prop :=
  ∃ r A' c' v', e = .returned r ∧ w'.ownsRow w.heap.size 9 1 r out.length (sv out) ∧ NetHas w' bn serve there back sent A' c' l ∧ SameRow A A' ∧ WayAt w' bn b1 ww v' waits ∧
    Mod (fun k => k = bn ∨ k = ww ∨ v.ownBlock = some k) w w' ∧ RowOf w v v' ∧ (r.ownBlock = none ∨ v'.ownBlock = none)

theorem WayAt.keep {w w' : World} {S : Nat → Prop} {bn b1 ww : Nat} {v : Value} {waits : List ByteArray} (h : WayAt w bn b1 ww v waits) (m : Mod S w w') (h1 : ¬ S b1) (h2 : ¬ S ww) (h3 : ∀ k, v.ownBlock = some k → ¬ S k) : WayAt w' bn b1 ww v waits :=
  ⟨h.box.keep m h1, h.var.keep m h2, own_keep h.own m (fun k _ hk => h3 k hk)⟩

theorem own_row {w : World} {base e size n : Nat} {v : Value} {xs : List Value} (h : w.ownsRow base e size v n xs) {k : Nat} (hk : v.ownBlock = some k) : ∃ cur fr, w.heap[k]? = some (.cells cur e fr) := by
  rcases h.2 with ⟨rfl, _⟩ | ⟨g, cap, cur, rfl, hg, hh, _⟩
  · cases hk
  · obtain rfl : g = k := by simpa [Value.ownBlock] using hk
    exact ⟨cur, _, hh⟩

theorem rowOf_later {w w1 : World} {v v' : Value} (h : RowOf w1 v v') (hs : w.heap.size ≤ w1.heap.size) : RowOf w v v' := fun k hk => by
  rcases h k hk with h | h
  · exact .inl h
  · exact .inr (by omega)

theorem way_done {bn b1 ww : Nat} {serve there back : Value} {sent : Nat} {A A' : Option Addr} {c' : Nat} {l : List Fate} {v v' r : Value} {waits out waits' : List ByteArray} {w w1 w2 : World}
    (hsep : b1 ≠ bn ∧ ww ≠ bn ∧ b1 ≠ ww) (hV : (∀ k, v.ownBlock = some k → k ≠ bn) ∧ ∀ k, v.ownBlock = some k → k ≠ ww)
    (hN1 : NetHas w1 bn serve there back sent A' c' l) (hsr : SameRow A A') (hW1 : WayAt w1 bn b1 ww v waits) (hm1 : Mod (fun k => k = bn) w w1) (hm2 : Mod (fun k => k = ww ∨ v.ownBlock = some k) w1 w2)
    (hvar : Has w2 ww [v'] 23) (hown : w2.ownsRow 0 9 1 v' waits'.length (sv waits')) (hr : w2.ownsRow w1.heap.size 9 1 r out.length (sv out)) (hrow : RowOf w1 v v') (hd : r.ownBlock = none ∨ v'.ownBlock = none) :
    WayPost bn serve there back sent A l b1 ww v out waits' w (.returned r) w2 := by
  refine ⟨r, A', c', v', rfl, own_base hr hm1.size, ⟨hN1.1.keep hm2 ?_, hN1.2.keep hm2 ?_⟩, hsr, ⟨hW1.box.keep hm2 ?_, hvar, hown⟩, ?_, rowOf_later hrow hm1.size, hd⟩
  · rintro (h | h)
    · exact hsep.2.1 h.symm
    · exact hV.1 _ h rfl
  · rintro a ha (h | h)
    · exact has_ne hW1.var (hN1.2.row a ha) (by decide) h
    · obtain ⟨cur, fr, hr⟩ := hN1.2.row a ha
      obtain ⟨cur2, fr2, hr2⟩ := own_row hW1.own h
      rw [hr] at hr2; simp at hr2
  · rintro (h | h)
    · exact hsep.2.2 h
    · exact has_ne hW1.box (own_row hW1.own h) (by decide) rfl
  · refine Mod.trans (hm1.mono fun _ _ h => .inl h) hm2 fun i _ h => .inr h

set_option maxRecDepth 100000 in
set_option maxHeartbeats 1000000 in
theorem way_calls (bn b1 ww : Nat) (serve there back : Value) (sent : Nat) (A : Option Addr) (c : Nat) (l : List Fate) (v : Value) (waits : List ByteArray) (s : ByteArray) (w : World)
    (hN : NetHas w bn serve there back sent A c l) (hW : WayAt w bn b1 ww v waits) (hl : FWf l) (hs : s.size ≤ maxLen) (h0 : 0 < s.size) (hwl : waits.length ≤ 1000000) :
    Calls Try.prog 25 #[.string s, .pointer (some ⟨b1, 0, none⟩), .pointer (some ⟨ww, 0, none⟩)] w
      (WayPost bn serve there back sent A l.tail b1 ww v (goes (hd l) s waits).1 (goes (hd l) s waits).2 w) := by
  have hx := next_calls bn serve there back sent A c l w hN
  have hfw := hd_wf hl
  have hhd : l.headD fate0 = hd l := rfl
  unfold NextAny at hx
  rw [hhd] at hx
  clear hhd
  generalize hd l = f at *
  have hp := hW.box.cell (o := 0) rfl
  have HX := Lib.hid hx
  have HW := Lib.hid hW
  have HN := Lib.hid hN
  have hww := hW.var.lt
  have hfr := hW.var.frozen 0
  have hbne := has_ne2 hN.1 hW.box (by decide)
  have hwne := has_ne2 hN.1 hW.var (by decide)
  have hbw := has_ne2 hW.var hW.box (by decide)
  have hvne : ∀ k, v.ownBlock = some k → k ≠ bn := fun k hk => has_ne hN.1 (own_row hW.own hk) (by decide)
  have hvw : ∀ k, v.ownBlock = some k → k ≠ ww := fun k hk => has_ne hW.var (own_row hW.own hk) (by decide)
  have HV := Lib.hid (And.intro hvne hvw)
  clear hx hW hN hvne hvw
  go_enter Try.func25, Try.ntmps25
  go_wp2_with fail
  refine HX.out.mono ?_
  rintro e w1 ⟨rfl, A', c', hN1, hsr, hm1⟩
  have hW1 : WayAt w1 bn b1 ww v waits := HW.out.keep hm1 hbne hwne HV.out.1
  have hsz := hm1.size
  have hr0 := hW1.var.cell (o := 0) rfl
  have hr1 := hW1.var.frozen 0
  have hww1 := hW1.var.lt
  have hown := hW1.own
  have HW1 := Lib.hid hW1
  have HN1 := Lib.hid hN1
  have HM1 := Lib.hid hm1
  have HSR := Lib.hid hsr
  clear hm1 hN1 hsr hfr hW1
  obtain ⟨k, a, b⟩ := f
  dsimp only at *
  obtain ⟨Av, capv, rfl, hcv, hcells, _, _⟩ := own_cells hown
  have HC := Lib.hid hcells
  clear hcells
  by_cases e1 : k = 1
  · subst e1
    clear hown
    go_wp2_with fail
    go_ret
    simp only [goes, if_true]
    refine way_done ⟨hbne, hwne, hbw⟩ HV.out HN1.out HSR.out HW1.out HM1.out (Mod.alloc (Mod.alloc (Mod.refl _ _) _) _) ((HW1.out.var.alloc _).alloc _) ((HW1.out.own.alloc _).alloc _) (World.ownsRow_nil _ _ _ _) (rowOf_same rfl) (.inl rfl)
  by_cases e3 : k = 3
  · subst e3
    go_wp2_with (first
      | (at_builtin
         go_must (refine appG _ _ T_str 0 _ waits.length (sv waits) (((hown.alloc _).alloc _).alloc _) _ 1 1 [.string s] rfl rfl rfl rfl rfl (cells_lit (by simp)) (by simp [Value.oneCell']) (by omega) (by unfold maxLen; omega) (by simp) ?_; intro v' w2 hown2 hm2 hrow)
         obtain ⟨A2, cap2, rfl, _, _, _, _⟩ := own_cells hown2
         have hr2 := (((HW1.out.var.alloc _).alloc _).alloc _).keep hm2 (fun h => HV.out.2 _ h rfl)
         have hr3 := hr2.cell (o := 0) rfl
         have hr4 := hr2.frozen 0
         have hr5 := Lib.hid hr2
         have H2 := Lib.hid hown2
         have M2 := Lib.hid hm2
         have R2 := Lib.hid hrow
         clear hr2 hown hown2 hm2 hrow))
    go_wp2_with fail
    go_ret
    have hg : goes ⟨3, a, b⟩ s waits = ([], waits ++ [s]) := by simp [goes]
    rw [hg]
    have hmA : Mod (fun k => k = ww ∨ (Value.slice Av waits.length capv).ownBlock = some k) w1 w2 := Mod.trans (Mod.alloc (Mod.alloc (Mod.alloc (Mod.refl _ _) _) _) _) (M2.out.mono fun _ _ h => .inr h) (fun _ _ h => h)
    refine way_done ⟨hbne, hwne, hbw⟩ HV.out HN1.out HSR.out HW1.out HM1.out (hmA.set1 (.inl rfl) _ _) (hr5.out.set 0 _) ?_ (World.ownsRow_nil _ _ _ _) (rowOf_later R2.out (by simp; omega)) (.inl rfl)
    rw [sv_app, List.length_append]
    refine own_keep H2.out (Mod.set1 (S := fun k => k = ww) (Mod.refl _ _) rfl _ _) (fun k _ hk hkw => ?_)
    subst hkw
    exact has_ne hr5.out (own_row H2.out hk) (by decide) rfl
  by_cases e2 : k = 2
  · subst e2
    have hg : goes ⟨2, a, b⟩ s waits = (trnB s a b :: waits, []) := by simp [goes]
    have HG := Lib.hid hg
    have HT := Lib.hid (turned_calls s ⟨2, a, b⟩)
    clear hg
    go_wp2_with fail
    refine (HT.out _ hs h0 hfw.2.2.1 hfw.2.2.2).mono ?_
    rintro e w1b ⟨rfl, hmb⟩
    have hrow0 := (Has.lit (w := w1.alloc (Obj.cells #[.int .i64 2, .int .i64 a, .int .u8 (b.toNat : Int)] 35)) (n := w1.heap.size + 1) (cs := [.string s]) (T := 9) (by simp)).keep hmb (fun h => h)
    have hrow1 := hrow0.cell (o := 0) rfl
    have hrow2 := hrow0.frozen 0
    have hvar0 := ((HW1.out.var.alloc _).alloc _).keep hmb (fun h => h)
    have hvar1 := hvar0.cell (o := 0) rfl
    have hszb := hmb.size
    simp only [size_alloc] at hszb
    have hmb0 : Mod (fun _ => False) w1 w1b := Mod.trans (Mod.alloc (Mod.alloc (Mod.refl _ _) _) _) hmb (fun _ _ h => h)
    generalize hy : trnB s a b = y at *
    have hcl : Cells (w1b.setCell ⟨w1.heap.size + 1, 0, none⟩ (.string y)) Av (sv waits) := HC.out.keep ((hmb0.mono fun _ _ h => h).setCell (p := ⟨w1.heap.size + 1, 0, none⟩) (.inr (Nat.le_succ _)) _) (fun _ _ h => h)
    have HB := Lib.hid hmb0
    have HR := Lib.hid (hrow0.set 0 (.string y))
    have HVR := Lib.hid (hvar0.other (p := ⟨w1.heap.size + 1, 0, none⟩) (by show ww ≠ w1.heap.size + 1; omega) (.string y))
    have HCL := Lib.hid hcl
    have HY := Lib.hid hy
    have hsb : (w1b.setCell ⟨w1.heap.size + 1, 0, none⟩ (.string y)).heap.size = w1b.heap.size := by simp [World.setCell]
    have HSB := Lib.hid hsb
    clear hrow0 hvar0 hmb0 hmb hr0 hown hcl hy HT hsb
    go_wp2_with (first
      | (at_builtin
         go_must (refine appG _ _ T_str w1.heap.size (.slice (some ⟨w1.heap.size + 1, 0, none⟩) 1 1) 1 [.string y] (own_of_has HR.out (by omega) (by unfold maxLen; omega) rfl) Av waits.length capv (sv waits) rfl rfl rfl rfl (by rw [sv_len]; omega) HCL.out (sv_one _) (by omega) (by unfold maxLen; omega) (by rw [HSB.out]; omega) ?_; intro v' w2 hown2 hm2 hrow)
         have hmA : Mod (fun k => k = w1.heap.size + 1) (w1b.setCell ⟨w1.heap.size + 1, 0, none⟩ (.string y)) w2 := hm2.mono fun i _ h => by simpa [Value.ownBlock] using h.symm
         have hr2 := HVR.out.keep hmA (by omega)
         have hr3 := hr2.cell (o := 0) rfl
         have hr4 := hr2.frozen 0
         have hr5 := Lib.hid hr2
         have H2 := Lib.hid hown2
         have M2 := Lib.hid hmA
         clear hr2 hown2 hm2 hrow hmA))
    go_ret
    rw [HG.out]
    have hmB : Mod (fun k => k = ww ∨ (Value.slice Av waits.length capv).ownBlock = some k) w1 w2 := Mod.trans ((HB.out.mono fun _ _ h => h.elim).setCell (p := ⟨w1.heap.size + 1, 0, none⟩) (.inr (Nat.le_succ _)) _) M2.out (fun i hi h => by omega)
    refine way_done ⟨hbne, hwne, hbw⟩ HV.out HN1.out HSR.out HW1.out HM1.out (hmB.set1 (.inl rfl) _ _) (hr5.out.set 0 _) (World.ownsRow_nil _ _ _ _) ?_ (rowOf_nil _ _) (.inr rfl)
    · have e : (y :: waits).length = 1 + waits.length := by simp; omega
      rw [e]
      refine own_keep H2.out (Mod.set1 (S := fun k => k = ww) (Mod.refl _ _) rfl _ _) (fun k hk _ hkw => by omega)
  by_cases e4 : k = 4
  · subst e4
    have hg : goes ⟨4, a, b⟩ s waits = (s :: s :: waits, []) := by simp [goes]
    have HG := Lib.hid hg
    clear hg
    go_wp2_with (first
      | (at_builtin
         refine appG (.tmp 30) (.tmp 32) T_str w1.heap.size (.slice (some ⟨w1.heap.size + 1, 0, none⟩) 1 1) 1 [.string s] ((own_lit (by simp) (by omega) (by unfold maxLen; omega) rfl).alloc _) _ 1 1 [.string s] rfl rfl rfl rfl rfl (cells_lit (by simp)) (by simp [Value.oneCell']) (by omega) (by unfold maxLen; omega) (by simp; omega) ?_
         intro v3 w3 hown3 hm3 hrow3
         have hmA : Mod (fun k => k = w1.heap.size + 1) (((w1.alloc (Obj.cells #[.int .i64 4, .int .i64 a, .int .u8 (b.toNat : Int)] 35)).alloc (Obj.cells #[.string s] 9)).alloc (Obj.cells #[.string s] 9)) w3 := hm3.mono fun i _ h => by simpa [Value.ownBlock] using h.symm
         have hmA0 : Mod (fun _ => False) w1 w3 := Mod.trans (Mod.alloc (Mod.alloc (Mod.alloc (Mod.refl _ _) _) _) _) hmA (fun i hi h => by omega)
         have hr2 := HW1.out.var.keep hmA0 (fun h => h)
         have hr3 := hr2.cell (o := 0) rfl
         have hsz3 := hmA0.size
         have hr5 := Lib.hid hr2
         have H3 := Lib.hid hown3
         have M3 := Lib.hid hmA0
         have HC3 := Lib.hid (HC.out.keep hmA0 (fun _ _ h => h))
         clear hr2 hown hown3 hm3 hrow3 hmA hmA0)
      | (at_builtin
         go_must (refine appG (.tmp 34) (.tmp 35) T_str w1.heap.size _ 2 [.string s, .string s] H3.out Av waits.length capv (sv waits) rfl rfl rfl rfl (by rw [sv_len]; omega) HC3.out (sv_one _) (by omega) (by unfold maxLen; omega) (by omega) ?_; intro v' w2 hown2 hm2 hrow)
         have hmB : Mod (fun k => k = ww ∨ (Value.slice Av waits.length capv).ownBlock = some k) w1 w2 := Mod.trans (M3.out.mono fun _ _ h => h.elim) hm2 (fun i hi h => by have := (H3.out.lt i h).1; omega)
         have hr2 := hr5.out.keep hm2 (fun h => by have := (H3.out.lt ww h).1; omega)
         have hr3 := hr2.cell (o := 0) rfl
         have hr4 := hr2.frozen 0
         have hr6 := Lib.hid hr2
         have H2 := Lib.hid hown2
         have M2 := Lib.hid hmB
         clear hr2 hown2 hm2 hrow hmB))
    go_ret
    rw [HG.out]
    refine way_done ⟨hbne, hwne, hbw⟩ HV.out HN1.out HSR.out HW1.out HM1.out (M2.out.set1 (.inl rfl) _ _) (hr6.out.set 0 _) (World.ownsRow_nil _ _ _ _) ?_ (rowOf_nil _ _) (.inr rfl)
    · have e : (s :: s :: waits).length = 2 + waits.length := by simp; omega
      rw [e]
      refine own_keep H2.out (Mod.set1 (S := fun k => k = ww) (Mod.refl _ _) rfl _ _) (fun k hk _ hkw => by omega)
  have q1 : (k == 1) = false := by simpa using e1
  have q2 : (k == 2) = false := by simpa using e2
  have q3 : (k == 3) = false := by simpa using e3
  have q4 : (k == 4) = false := by simpa using e4
  have hg : goes ⟨k, a, b⟩ s waits = (s :: waits, []) := by simp [goes, e1, e2, e3, e4]
  have HG := Lib.hid hg
  clear hg
  go_wp2_with (first
    | (at_builtin
       go_must (refine appG _ _ T_str w1.heap.size (.slice (some ⟨w1.heap.size + 1, 0, none⟩) 1 1) 1 [.string s] (own_lit (by simp) (by omega) (by unfold maxLen; omega) rfl) Av waits.length capv (sv waits) rfl rfl rfl rfl (by rw [sv_len]; omega) ((HC.out.alloc _).alloc _) (sv_one _) (by omega) (by unfold maxLen; omega) (by simp; omega) ?_; intro v' w2 hown2 hm2 hrow)
       have hmA : Mod (fun k => k = w1.heap.size + 1) ((w1.alloc (Obj.cells #[.int .i64 k, .int .i64 a, .int .u8 (b.toNat : Int)] 35)).alloc (Obj.cells #[.string s] 9)) w2 := hm2.mono fun i _ h => by simpa [Value.ownBlock] using h.symm
       have hr2 := ((HW1.out.var.alloc _).alloc _).keep hmA (by omega)
       have hr3 := hr2.cell (o := 0) rfl
       have hr4 := hr2.frozen 0
       have hr5 := Lib.hid hr2
       have H2 := Lib.hid hown2
       have M2 := Lib.hid hmA
       clear hr2 hown hown2 hm2 hrow hmA))
  go_ret
  rw [HG.out]
  have hmB : Mod (fun k => k = ww ∨ (Value.slice Av waits.length capv).ownBlock = some k) w1 w2 := Mod.trans (Mod.alloc (Mod.alloc (Mod.refl _ _) _) _) M2.out (fun i hi h => by omega)
  refine way_done ⟨hbne, hwne, hbw⟩ HV.out HN1.out HSR.out HW1.out HM1.out (hmB.set1 (.inl rfl) _ _) (hr5.out.set 0 _) (World.ownsRow_nil _ _ _ _) ?_ (rowOf_nil _ _) (.inr rfl)
  · have e : (s :: waits).length = 1 + waits.length := by simp; omega
    rw [e]
    refine own_keep H2.out (Mod.set1 (S := fun k => k = ww) (Mod.refl _ _) rfl _ _) (fun k hk _ hkw => by omega)
end Net
end Go.Proofs.Ytocpifoimoaibaa
