/- Joined texts: ObjR. -/
import Derived.Test.YtpoljpjcmigobaaDoorJ9
/- The walks of object's reader: reads, takeInt, takeText, takeId, whole. -/
namespace Go.Proofs.YtpoljpjcmigobaaDoor
set_option linter.unusedVariables false
set_option linter.unusedSimpArgs false
open Go.RowKit K Wire
namespace Obj

/-- the block k holds bytes -/
def ByteRow (w : World) (k : Nat) : Prop := ∃ cur fz, w.heap[k]? = some (.cells cur 5 fz)
/-- of what was there block b may have turned, and rows of bytes from base on -/
def ModB (base b : Nat) (w w' : World) : Prop := Mod (fun k => k = b ∨ (base ≤ k ∧ ByteRow w k)) w w'
theorem ModB.refl (base b : Nat) (w : World) : ModB base b w w := Mod.refl _ _
theorem ModB.trans {base b : Nat} {x y z : World} (h : ModB base b x y) (k : ModB base b y z) : ModB base b x z := by
  refine Mod.trans h k fun i hi hs => ?_
  rcases hs with hs | ⟨hb, cur, fz, hr⟩
  · exact .inl hs
  · by_cases hS : i = b ∨ (base ≤ i ∧ ByteRow x i)
    · exact hS
    · rw [h.block i hi hS] at hr
      exact .inr ⟨hb, cur, fz, hr⟩
theorem ModB.of {base b : Nat} {w w' : World} (h : Mod (· = b) w w') : ModB base b w w' := Mod.mono h fun _ _ h => .inl h
theorem ModB.of0 {base b : Nat} {w w' : World} (h : Mod (fun _ => False) w w') : ModB base b w w' := Mod.mono h fun _ _ h => h.elim
theorem ModB.has {base b g : Nat} {w w' : World} {cs : List Value} {T : TypeId} (h : ModB base b w w') (hh : Has w g cs T) (hT : T ≠ 5) (hg : g ≠ b) : Has w' g cs T :=
  hh.keep h fun hs => by
    rcases hs with hs | ⟨_, cur, fz, hr⟩
    · exact hg hs
    · exact has_ne hh ⟨cur, fz, hr⟩ hT rfl
theorem ModB.keepOwn {base base' b : Nat} {w w' : World} {e : TypeId} {size n : Nat} {v : Value} {xs : List Value} (h : ModB base b w w') (hv : w.ownsRow base' e size v n xs) (he : e ≠ 5) (hb : ∀ k, v.ownBlock = some k → k ≠ b) : w'.ownsRow base' e size v n xs := by
  refine own_keep hv h fun k _ hk hs => ?_
  rcases hs with rfl | ⟨_, cur, fz, hr⟩
  · exact hb _ hk rfl
  · obtain ⟨cur2, fz2, hr2⟩ := own_row hv hk
    rw [hr] at hr2; simp at hr2; exact he hr2.2.1.symm
theorem WOp.modB {B b : Nat} {l : List UInt8} {v : Value} {w w' : World} (h : Mod (fun k => k = b ∨ v.ownBlock = some k) w w') (hv : w.ownsRow B 5 1 v l.length (bv l)) : ModB B b w w' :=
  Mod.mono h fun k _ hs => by
    rcases hs with hs | hs
    · exact .inl hs
    · exact .inr ⟨(hv.lt k hs).1, own_row hv hs⟩

/-- a reader: what it wrote again, whether something is wrong, where it is -/
structure RS where
  l : List UInt8
  bad : Bool
  p : Int
def tInt (L : List UInt8) (lo hi : Int) (x : RS) : Int × RS :=
  if x.bad then (0, x) else ((takeI L x.p).1, ⟨x.l ++ enc (takeI L x.p).1, !(takeI L x.p).2.2 || !inR (takeI L x.p).1 lo hi, (takeI L x.p).2.1⟩)
def tText (L : List UInt8) (lo hi : Int) (x : RS) : List UInt8 × RS :=
  if x.bad then ([], x) else ((takeT L x.p hi).1, ⟨x.l ++ encT (takeT L x.p hi).1, !(takeT L x.p hi).2.2 || !inR ((takeT L x.p hi).1.length : Int) lo hi, (takeT L x.p hi).2.1⟩)
def tId (L : List UInt8) (x : RS) : List UInt8 × RS :=
  if x.bad = true ∨ (L.length : Int) - x.p < 32 then ([], ⟨x.l, true, x.p⟩) else ((L.drop x.p.toNat).take 32, ⟨x.l ++ (L.drop x.p.toNat).take 32, false, x.p + 32⟩)

/-- a reader in memory -/
structure RAt (w : World) (B b : Nat) (L : List UInt8) (A : Option Addr) (c : Nat) (x : RS) (v : Value) : Prop where
  wr : WAt w B b 138 [.slice A L.length c, .int .i64 x.p] x.l x.bad v
  cells : Cells w A (bv L)
  adr : Adr A c
  cap : L.length ≤ c
  max : c ≤ maxLen
  row : ∀ a, A = some a → ∃ cur fr, w.heap[a.block]? = some (.cells cur 5 fr) ∧ fr ≠ (0, 0)
  here : 0 ≤ x.p ∧ x.p ≤ L.length + 1
def ROp (B b : Nat) (L : List UInt8) (A : Option Addr) (c : Nat) (x' : RS) (u : Value) (w : World) (e : Ending) (w' : World) : Prop :=
  e = .returned u ∧ ∃ v', RAt w' B b L A c x' v' ∧ ModB B b w w'

theorem own_unfrozen {w : World} {base e size n : Nat} {v : Value} {xs : List Value} (h : w.ownsRow base e size v n xs) {k : Nat} (hk : v.ownBlock = some k) : ∃ cur, w.heap[k]? = some (.cells cur e (0, 0)) := by
  rcases h.2 with ⟨rfl, _⟩ | ⟨g, cap, cur, rfl, hg, hh, _⟩
  · cases hk
  · obtain rfl : g = k := by simpa [Value.ownBlock] using hk
    exact ⟨cur, hh⟩
theorem RAt.apart {w : World} {B b : Nat} {L : List UInt8} {A : Option Addr} {c : Nat} {x : RS} {v : Value} (h : RAt w B b L A c x v) : ∀ a, A = some a → ¬ (a.block = b ∨ v.ownBlock = some a.block) := fun a ha hs => by
  obtain ⟨cur, fr, hr, hf⟩ := h.row a ha
  rcases hs with hs | hs
  · exact has_ne h.wr.has ⟨cur, fr, hr⟩ (by decide) hs
  · obtain ⟨cur2, hr2⟩ := own_unfrozen h.wr.own hs
    rw [hr] at hr2; simp at hr2; exact hf hr2.2
/-- the reader behind a step of its writer; the place may have turned -/
theorem RAt.next {w w' : World} {B b : Nat} {L : List UInt8} {A : Option Addr} {c : Nat} {x x' : RS} {v v' : Value} (h : RAt w B b L A c x v) (hw : WAt w' B b 138 [.slice A L.length c, .int .i64 x'.p] x'.l x'.bad v')
    (hm : Mod (fun k => k = b ∨ v.ownBlock = some k) w w') (hp : 0 ≤ x'.p ∧ x'.p ≤ L.length + 1) : RAt w' B b L A c x' v' :=
  ⟨hw, h.cells.keep hm h.apart, h.adr, h.cap, h.max, fun a ha => by
    obtain ⟨cur, fr, hr, hf⟩ := h.row a ha
    exact ⟨cur, fr, (hm.block _ (Array.getElem?_eq_some_iff.1 hr).1 (h.apart a ha)).trans hr, hf⟩, hp⟩
theorem RAt.drewN {w : World} {B b : Nat} {L : List UInt8} {A : Option Addr} {c : Nat} {x : RS} {v : Value} (h : RAt w B b L A c x v) (n : Nat) : RAt (w.drewN n) B b L A c x v :=
  h.next (h.wr.keep ((Mod.refl (fun _ => False) w).drewN n) (fun h => h) (fun _ _ h => h)) ((Mod.refl _ w).drewN n) h.here

theorem takeI_in (L : List UInt8) (p : Int) : In64 (takeI L p).1 ∧ 0 ≤ (takeI L p).2.1 ∧ (takeI L p).2.1 ≤ L.length := by
  rcases takeI_cases L p with h | ⟨n, q, k, rfl, h1, h2, h3, h4, h5, h6⟩
  · rw [h]; exact ⟨by unfold In64; omega, by show (0:Int) ≤ 0; omega, by show (0:Int) ≤ _; omega⟩
  · rw [h6]; exact ⟨h4, by show (0:Int) ≤ ((q + k : Nat) : Int); omega, by show ((q + k : Nat) : Int) ≤ _; omega⟩

set_option maxRecDepth 100000 in
set_option maxHeartbeats 1000000 in
theorem rInt_calls (B b : Nat) (L : List UInt8) (A : Option Addr) (c : Nat) (x : RS) (v : Value) (lo hi : Int) (w : World) (h : RAt w B b L A c x v) (hl : x.bad = false → x.l.length ≤ 100000000) (hL : L.length ≤ 100000000) :
    Calls Tryd.prog 87 #[.pointer (some ⟨b, 0, none⟩), .int .i64 lo, .int .i64 hi] w (ROp B b L A c (tInt L lo hi x).2 (.int .i64 (tInt L lo hi x).1) w) := by
  obtain ⟨xl, bad, p⟩ := x
  have h1 := h.wr.has.cell (o := 1) rfl
  have h2 := h.wr.has.cell (o := 2) rfl
  have h3 := h.wr.has.cell (o := 3) rfl
  have f3 := h.wr.has.frozen 3
  cases bad with
  | true =>
    have HH := Lib.hid h
    clear h
    go_enter Tryd.func87, Tryd.ntmps87
    go_wp2_with fail
    go_ret
    exact ⟨rfl, v, HH.out, ModB.refl _ _ _⟩
  | false =>
    have hT := fun n => takeInt_calls A c L p (w.drewN n) (h.cells.drewN n) (by omega) h.cap h.max h.adr
    have hin := takeI_in L p
    have htr : tInt L lo hi ⟨xl, false, p⟩ = ((takeI L p).1, ⟨xl ++ enc (takeI L p).1, !(takeI L p).2.2 || !inR (takeI L p).1 lo hi, (takeI L p).2.1⟩) := by unfold tInt; rw [if_neg (by simp)]
    rw [htr]
    generalize takeI L p = r at *
    obtain ⟨n, q, ok⟩ := r
    unfold vI at hT
    dsimp only at *
    have HH := Lib.hid h
    have HT := Lib.hid hT
    have HN := Lib.hid hin
    clear h hT hin htr
    go_enter Tryd.func87, Tryd.ntmps87
    go_wp2_with fail
    go_quiet ((go_at_call 107; exact Calls.quiet_of_same (HT.out _)))
    have hmS : Mod (fun k => k = b) w ((w.drewN nq).setCell ⟨b, 3, none⟩ (.int .i64 q)) := ((Mod.refl (fun k => k = b) w).drewN nq).set1 rfl _ _
    have hWS : WAt ((w.drewN nq).setCell ⟨b, 3, none⟩ (.int .i64 q)) B b 138 [.slice A L.length c, .int .i64 q] xl false v :=
      ⟨HH.out.wr.has.drewN nq |>.set 3 (.int .i64 q), own_keep HH.out.wr.own hmS (fun k _ hk hkb => HH.out.wr.ne (by decide) k hk hkb), Nat.le_trans HH.out.wr.base hmS.size⟩
    have hA := ask_calls b _ v false ok _ _ hWS.has
    have HWS := Lib.hid hWS
    have HMS := Lib.hid hmS
    have HA := Lib.hid hA
    clear hmS hWS hA HT
    go_wp2_with fail
    refine HA.out.mono ?_
    rintro e w2 ⟨rfl, hh2, hm2⟩
    have hW2 : WAt w2 B b 138 [.slice A L.length c, .int .i64 q] xl (false || !ok) v :=
      ⟨hh2, own_keep HWS.out.own hm2 (fun k _ hk hkb => HWS.out.ne (by decide) k hk hkb), Nat.le_trans HWS.out.base hm2.size⟩
    have hI := int_calls B b _ _ xl (false || !ok) v n lo hi w2 hW2 (by decide) HN.out.1 (hl (by trivial))
    have HM2 := Lib.hid (Mod.trans HMS.out hm2 (fun _ _ h => h))
    have HW2 := Lib.hid hW2
    have HI := Lib.hid hI
    clear hh2 hm2 hW2 hI HMS HWS HA
    go_wp2_with fail
    refine HI.out.mono ?_
    rintro e w3 ⟨rfl, v3, hW3, hm3⟩
    have hm03 : Mod (fun k => k = b ∨ v.ownBlock = some k) w w3 := Mod.trans (HM2.out.mono fun _ _ h => .inl h) hm3 (fun _ _ h => h)
    have hR3 : RAt w3 B b L A c ⟨xl ++ enc n, !ok || !inR n lo hi, q⟩ v3 := HH.out.next (by simpa using hW3) hm03 ⟨HN.out.2.1, by have := HN.out.2.2; show q ≤ _; omega⟩
    have HR3 := Lib.hid hR3
    have HB3 := Lib.hid (WOp.modB hm03 HH.out.wr.own)
    clear hW3 hm3 hm03 hR3
    go_wp2_with fail
    go_ret
    exact ⟨rfl, v3, HR3.out, HB3.out⟩

theorem takeT_in (L : List UInt8) (p most : Int) : 0 ≤ (takeT L p most).2.1 ∧ (takeT L p most).2.1 ≤ L.length ∧ (takeT L p most).1.length ≤ L.length := by
  have h := takeI_in L p
  unfold takeT
  dsimp only
  split
  · exact ⟨by show (0:Int) ≤ 0; omega, by show (0:Int) ≤ _; omega, Nat.zero_le _⟩
  · rename_i hn
    have h1 : ¬ (takeI L p).1 < 0 := fun h => hn (.inr (.inl h))
    have h2 : ¬ (L.length : Int) - (takeI L p).2.1 < (takeI L p).1 := fun h => hn (.inr (.inr (.inr h)))
    refine ⟨by show (0:Int) ≤ _ + _; omega, by show _ + _ ≤ (L.length : Int); omega, ?_⟩
    show ((L.drop _).take _).length ≤ _
    rw [List.length_take, List.length_drop]; omega

set_option maxRecDepth 100000 in
set_option maxHeartbeats 1000000 in
theorem rText_calls (B b : Nat) (L : List UInt8) (A : Option Addr) (c : Nat) (x : RS) (v : Value) (lo hi : Int) (w : World) (h : RAt w B b L A c x v) (hl : x.bad = false → x.l.length ≤ 100000000) (hL : L.length ≤ 100000000) :
    Calls Tryd.prog 88 #[.pointer (some ⟨b, 0, none⟩), .int .i64 lo, .int .i64 hi] w (ROp B b L A c (tText L lo hi x).2 (.string ⟨(tText L lo hi x).1.toArray⟩) w) := by
  obtain ⟨xl, bad, p⟩ := x
  have h1 := h.wr.has.cell (o := 1) rfl
  have h2 := h.wr.has.cell (o := 2) rfl
  have h3 := h.wr.has.cell (o := 3) rfl
  have f3 := h.wr.has.frozen 3
  cases bad with
  | true =>
    have HH := Lib.hid h
    clear h
    go_enter Tryd.func88, Tryd.ntmps88
    go_wp2_with fail
    go_ret
    exact ⟨rfl, v, HH.out, ModB.refl _ _ _⟩
  | false =>
    have hT := fun n => takeText_calls A c L p hi (w.drewN n) (h.cells.drewN n) (by omega) h.cap h.max h.adr
    have hin := takeT_in L p hi
    have htr : tText L lo hi ⟨xl, false, p⟩ = ((takeT L p hi).1, ⟨xl ++ encT (takeT L p hi).1, !(takeT L p hi).2.2 || !inR ((takeT L p hi).1.length : Int) lo hi, (takeT L p hi).2.1⟩) := by unfold tText; rw [if_neg (by simp)]
    rw [htr]
    generalize takeT L p hi = r at *
    obtain ⟨n, q, ok⟩ := r
    unfold vT at hT
    dsimp only at *
    have HH := Lib.hid h
    have HT := Lib.hid hT
    have HN := Lib.hid hin
    clear h hT hin htr
    go_enter Tryd.func88, Tryd.ntmps88
    go_wp2_with fail
    go_quiet ((go_at_call 108; exact Calls.quiet_of_same (HT.out _)))
    have hmS : Mod (fun k => k = b) w ((w.drewN nq).setCell ⟨b, 3, none⟩ (.int .i64 q)) := ((Mod.refl (fun k => k = b) w).drewN nq).set1 rfl _ _
    have hWS : WAt ((w.drewN nq).setCell ⟨b, 3, none⟩ (.int .i64 q)) B b 138 [.slice A L.length c, .int .i64 q] xl false v :=
      ⟨HH.out.wr.has.drewN nq |>.set 3 (.int .i64 q), own_keep HH.out.wr.own hmS (fun k _ hk hkb => HH.out.wr.ne (by decide) k hk hkb), Nat.le_trans HH.out.wr.base hmS.size⟩
    have hA := ask_calls b _ v false ok _ _ hWS.has
    have HWS := Lib.hid hWS
    have HMS := Lib.hid hmS
    have HA := Lib.hid hA
    clear hmS hWS hA HT
    go_wp2_with fail
    refine HA.out.mono ?_
    rintro e w2 ⟨rfl, hh2, hm2⟩
    have hW2 : WAt w2 B b 138 [.slice A L.length c, .int .i64 q] xl (false || !ok) v :=
      ⟨hh2, own_keep HWS.out.own hm2 (fun k _ hk hkb => HWS.out.ne (by decide) k hk hkb), Nat.le_trans HWS.out.base hm2.size⟩
    have hnz : (⟨n.toArray⟩ : ByteArray).size = n.length := rfl
    have hI := text_calls B b _ _ xl (false || !ok) v ⟨n.toArray⟩ lo hi w2 hW2 (by decide) (by rw [hnz]; have := HN.out.2.2; omega) (hl (by trivial))
    rw [hnz] at hI
    have HM2 := Lib.hid (Mod.trans HMS.out hm2 (fun _ _ h => h))
    have HW2 := Lib.hid hW2
    have HI := Lib.hid hI
    clear hh2 hm2 hW2 hI HMS HWS HA
    go_wp2_with fail
    refine HI.out.mono ?_
    rintro e w3 ⟨rfl, v3, hW3, hm3⟩
    have hm03 : Mod (fun k => k = b ∨ v.ownBlock = some k) w w3 := Mod.trans (HM2.out.mono fun _ _ h => .inl h) hm3 (fun _ _ h => h)
    have hR3 : RAt w3 B b L A c ⟨xl ++ encT n, !ok || !inR (n.length : Int) lo hi, q⟩ v3 := HH.out.next (by simpa using hW3) hm03 ⟨HN.out.1, by have := HN.out.2.1; show q ≤ _; omega⟩
    have HR3 := Lib.hid hR3
    have HB3 := Lib.hid (WOp.modB hm03 HH.out.wr.own)
    clear hW3 hm3 hm03 hR3
    go_wp2_with fail
    go_ret
    exact ⟨rfl, v3, HR3.out, HB3.out⟩

set_option maxRecDepth 100000 in
set_option maxHeartbeats 1000000 in
theorem rId_calls (B b : Nat) (L : List UInt8) (A : Option Addr) (c : Nat) (x : RS) (v : Value) (w : World) (h : RAt w B b L A c x v) (hl : x.bad = false → x.l.length ≤ 100000000) (hL : L.length ≤ 100000000) :
    Calls Tryd.prog 90 #[.pointer (some ⟨b, 0, none⟩)] w (ROp B b L A c (tId L x).2 (.string ⟨(tId L x).1.toArray⟩) w) := by
  obtain ⟨xl, bad, p⟩ := x
  have h1 := h.wr.has.cell (o := 1) rfl
  have h2 := h.wr.has.cell (o := 2) rfl
  have h3 := h.wr.has.cell (o := 3) rfl
  have f3 := h.wr.has.frozen 3
  have f1 := h.wr.has.frozen 1
  have hp := h.here
  dsimp only at *
  have hsub : IntKind.i64.wrap ((L.length : Int) - p) = (L.length : Int) - p := by rw [IntKind.wrap_i64]; omega
  by_cases hbad : bad = true ∨ (L.length : Int) - p < 32
  · have htr : tId L ⟨xl, bad, p⟩ = ([], ⟨xl, true, p⟩) := by unfold tId; rw [if_pos hbad]
    rw [htr]
    have HH := Lib.hid h
    have hmS : ∀ n, Mod (fun k => k = b) w ((w.drewN n).setCell ⟨b, 1, none⟩ (.bool true)) := fun n => ((Mod.refl (fun k => k = b) w).drewN n).set1 rfl _ _
    have hRS : ∀ n, RAt ((w.drewN n).setCell ⟨b, 1, none⟩ (.bool true)) B b L A c ⟨xl, true, p⟩ v := fun n =>
      h.next ⟨h.wr.has.drewN n |>.set 1 (.bool true), own_keep h.wr.own (hmS n) (fun k _ hk hkb => h.wr.ne (by decide) k hk hkb), Nat.le_trans h.wr.base (hmS n).size⟩ ((hmS n).mono fun _ _ h => .inl h) hp
    have HRS := Lib.hid hRS
    have HMS := Lib.hid hmS
    clear h htr hmS hRS
    cases bad with
    | true =>
      clear hbad
      go_enter Tryd.func90, Tryd.ntmps90
      go_wp2_with fail
      go_quiet (fail)
      go_wp2_with fail
      go_ret
      exact ⟨rfl, v, HRS.out _, ModB.of (HMS.out _)⟩
    | false =>
      have hlt : (L.length : Int) - p < 32 := by
        rcases hbad with h | h
        · cases h
        · exact h
      clear hbad
      go_enter Tryd.func90, Tryd.ntmps90
      go_wp2_with fail
      go_quiet (fail)
      go_wp2_with fail
      go_ret
      exact ⟨rfl, v, HRS.out _, ModB.of (HMS.out _)⟩
  · have hb0 : bad = false := by cases bad; rfl; exact absurd (.inl rfl) hbad
    subst hb0
    have hge : ¬ (L.length : Int) - p < 32 := fun h => hbad (.inr h)
    obtain ⟨q, rfl⟩ : ∃ q : Nat, p = (q : Int) := ⟨p.toNat, by omega⟩
    have htr : tId L ⟨xl, false, q⟩ = ((L.drop q).take 32, ⟨xl ++ (L.drop q).take 32, false, (q : Int) + 32⟩) := by unfold tId; rw [if_neg hbad]; simp
    rw [htr]
    obtain ⟨A', hsl, hadr', hcl'⟩ := slice_any (P := Tryd.prog) 111 5 q 32 h.cells h.adr Tryd.underlying111 (by kernel_rfl) (by omega) h.cap
    have hsl2 : ∀ w' : World, (Instr.slice 111 (.slice A L.length c) (some (.int .i64 q)) (some (.int .i64 ((q : Int) + 32))) none).run Tryd.prog w' = .ok (.slice A' 32 (c - q)) w' := hsl
    clear hsl
    have hlen : ((L.drop q).take 32).length = 32 := by rw [List.length_take, List.length_drop]; omega
    have hcv := fun n => run_bytes (P := Tryd.prog) (c - q) (hcl'.drewN n) 111 9 5 Tryd.underlying111 Tryd.underlying5 Tryd.underlying9
    rw [hlen] at hcv
    have hadd : IntKind.i64.wrap ((q : Int) + 32) = (q : Int) + 32 := by rw [IntKind.wrap_i64]; omega
    generalize (L.drop q).take 32 = id at *
    have HH := Lib.hid h
    clear h htr hbad hadr' hcl'
    go_enter Tryd.func90, Tryd.ntmps90
    go_wp2_with fail
    go_quiet (fail)
    obtain ⟨n1, rfl⟩ : ∃ n1, n1 = nq := ⟨_, rfl⟩
    go_wp2_with fail
    go_quiet (fail)
    have hmS : Mod (fun k => k = b) w ((w.drewN (n1 + nq)).setCell ⟨b, 3, none⟩ (.int .i64 ((q : Int) + 32))) := ((Mod.refl (fun k => k = b) w).drewN _).set1 rfl _ _
    have hWS : WAt ((w.drewN (n1 + nq)).setCell ⟨b, 3, none⟩ (.int .i64 ((q : Int) + 32))) B b 138 [.slice A L.length c, .int .i64 ((q : Int) + 32)] xl false v :=
      ⟨HH.out.wr.has.drewN _ |>.set 3 (.int .i64 ((q : Int) + 32)), own_keep HH.out.wr.own hmS (fun k _ hk hkb => HH.out.wr.ne (by decide) k hk hkb), Nat.le_trans HH.out.wr.base hmS.size⟩
    have hnz : (⟨id.toArray⟩ : ByteArray).size = id.length := rfl
    have hI := id_calls B b _ _ xl false v ⟨id.toArray⟩ _ hWS (by decide) (by rw [hnz]; omega) (hl (by trivial))
    rw [hnz, hlen] at hI
    have HMS := Lib.hid hmS
    have HI := Lib.hid hI
    have HL := Lib.hid hlen
    clear hmS hWS hI hlen hcv hsl2
    go_wp2_with fail
    refine HI.out.mono ?_
    rintro e w3 ⟨rfl, v3, hW3, hm3⟩
    have hm03 : Mod (fun k => k = b ∨ v.ownBlock = some k) w w3 := Mod.trans (HMS.out.mono fun _ _ h => .inl h) hm3 (fun _ _ h => h)
    have hR3 : RAt w3 B b L A c ⟨xl ++ id, false, (q : Int) + 32⟩ v3 := HH.out.next (by simpa using hW3) hm03 ⟨by show (0:Int) ≤ (q:Int) + 32; omega, by show (q:Int) + 32 ≤ _; omega⟩
    have HR3 := Lib.hid hR3
    have HB3 := Lib.hid (WOp.modB hm03 HH.out.wr.own)
    clear hW3 hm3 hm03 hR3
    go_wp2_with fail
    go_ret
    exact ⟨rfl, v3, HR3.out, HB3.out⟩

def wholeB (L : List UInt8) (x : RS) : Bool := !x.bad && decide (x.l = L)
set_option maxRecDepth 100000 in
set_option maxHeartbeats 1000000 in
theorem whole_calls (B b : Nat) (L : List UInt8) (A : Option Addr) (c : Nat) (x : RS) (v : Value) (w : World) (h : RAt w B b L A c x v) :
    Calls Tryd.prog 89 #[.pointer (some ⟨b, 0, none⟩)] w fun e w' => e = .returned (.bool (wholeB L x)) ∧ Mod (fun _ => False) w w' := by
  obtain ⟨xl, bad, p⟩ := x
  have h0 := h.wr.has.cell (o := 0) rfl
  have h1 := h.wr.has.cell (o := 1) rfl
  have h2 := h.wr.has.cell (o := 2) rfl
  cases bad with
  | true =>
    clear h
    go_enter Tryd.func89, Tryd.ntmps89
    go_wp2_with fail
    go_quiet (fail)
    go_wp2_with fail
    go_ret
    exact ⟨rfl, by (repeat (first | with_reducible exact Mod.refl _ _ | with_reducible apply Mod.drew | with_reducible apply Mod.drewN | with_reducible apply Mod.alloc | refine Mod.set1 ?_ (by first | exact rfl | simp) _ _))⟩
  | false =>
    obtain ⟨A0, c0, rfl, _, hcl, _, _⟩ := own_cells h.wr.own
    have hcv := fun n => run_bytes (P := Tryd.prog) c0 (hcl.drewN n) 111 9 5 Tryd.underlying111 Tryd.underlying5 Tryd.underlying9
    have hcv2 := fun n => run_bytes (P := Tryd.prog) c (h.cells.drewN n) 111 9 5 Tryd.underlying111 Tryd.underlying5 Tryd.underlying9
    dsimp only at *
    by_cases he : xl = L
    · have hq := str_eq he
      have hw : wholeB L ⟨xl, false, p⟩ = true := by simp [wholeB, he]
      rw [hw]
      have HE := Lib.hid he
      clear h hcl he hw
      go_enter Tryd.func89, Tryd.ntmps89
      go_wp2_with fail
      go_quiet (fail)
      go_wp2_with fail
      go_ret
      exact ⟨by rw [HE.out]; simp, by (repeat (first | with_reducible exact Mod.refl _ _ | with_reducible apply Mod.drew | with_reducible apply Mod.drewN | with_reducible apply Mod.alloc | refine Mod.set1 ?_ (by first | exact rfl | simp) _ _))⟩
    · have hq := str_ne he
      have hw : wholeB L ⟨xl, false, p⟩ = false := by simp [wholeB, he]
      rw [hw]
      have HE := Lib.hid he
      clear h hcl he hw
      go_enter Tryd.func89, Tryd.ntmps89
      go_wp2_with fail
      go_quiet (fail)
      go_wp2_with fail
      go_ret
      exact ⟨by simp [HE.out], by (repeat (first | with_reducible exact Mod.refl _ _ | with_reducible apply Mod.drew | with_reducible apply Mod.drewN | with_reducible apply Mod.alloc | refine Mod.set1 ?_ (by first | exact rfl | simp) _ _))⟩

def ReadsPost (L : List UInt8) (m : UInt8) (w : World) (e : Ending) (w' : World) : Prop :=
  ∃ b A c v, e = .returned (.pointer (some ⟨b, 0, none⟩)) ∧ RAt w' w.heap.size b L A c ⟨[m], false, 1⟩ v ∧ w.heap.size ≤ b ∧ Mod (fun _ => False) w w'
set_option maxRecDepth 100000 in
set_option maxHeartbeats 1000000 in
theorem reads_calls (s : ByteArray) (m : UInt8) (w : World) (hm : s.size ≤ 100000000) :
    Calls Tryd.prog 86 #[.string s, .int .u8 (m.toNat : Int)] w (ReadsPost s.data.toList m w) := by
  have hlen : s.data.toList.length = s.size := by simp
  obtain ⟨c1, w1, hE, hM1, hC1, hN1, hx1, hg1, hf1, hrow⟩ := to_bytes s (w.alloc (.cells #[.int .u8 (m.toNat : Int)] 5)) (by unfold maxLen; omega)
  rw [size_alloc] at hE hC1 hg1 hrow
  have hv := (own_lit (w := w) (n := w.heap.size) (m := 1) (cs := bv [m]) (e := 5) (base := w.heap.size) (size := 1) rfl (Nat.le_refl _) (by unfold maxLen; omega) rfl)
  have hv1 := own_keep hv hM1 (fun _ _ _ h => h)
  have hm0 : Mod (fun _ => False) w w1 := Mod.trans ((Mod.refl (fun _ => False) w).alloc _) hM1 (fun _ _ h => h)
  have HV := Lib.hid hv1
  have HC := Lib.hid hC1
  have HM := Lib.hid hm0
  have HRW := Lib.hid hrow
  clear hv hv1 hM1 hC1 hm0 hf1 hrow
  go_enter Tryd.func86, Tryd.ntmps86
  go_wp2_with fail
  go_ret
  have hmA : Mod (fun _ => False) w1 (w1.alloc (.cells #[.slice (some ⟨w.heap.size, 0, none⟩) 1 1, .bool false, .slice (some ⟨w.heap.size + 1, 0, none⟩) s.size c1, .int .i64 1] 138)) := (Mod.refl (fun _ => False) w1).alloc _
  refine ⟨w1.heap.size, some ⟨w.heap.size + 1, 0, none⟩, c1, .slice (some ⟨w.heap.size, 0, none⟩) 1 1, rfl, ⟨⟨?_, HV.out.alloc _, ?_⟩, ?_, .inr ⟨_, _, rfl⟩, by omega, hx1, ?_, by show (0:Int) ≤ 1; omega, by show (1:Int) ≤ _; omega⟩, ?_, HM.out.alloc _⟩
  · rw [hlen]; exact Has.new w1 _ _
  · simp only [size_alloc]; omega
  · exact .inr ⟨_, 0, rfl, fun j u hj => by rw [Nat.zero_add, cell_new_old _ _ _ hg1]; exact HC.out j u hj⟩
  · intro a ha
    obtain rfl := Option.some.inj ha
    obtain ⟨cur, fr, hr, hf⟩ := HRW.out
    exact ⟨cur, fr, (hmA.block _ hg1 (fun h => h)).trans hr, hf⟩
  · omega
end Obj
end Go.Proofs.YtpoljpjcmigobaaDoor
