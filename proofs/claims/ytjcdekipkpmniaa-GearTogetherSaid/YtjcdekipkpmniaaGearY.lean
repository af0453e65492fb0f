/- The walk of the cutter's Write. -/
import Derived.Test.YtjcdekipkpmniaaGearX
namespace Go.Proofs.Ytjcdekipkpmniaa
open Go.RowKit K
namespace Gear

/-- a cutter's state, and the chunks that it has told -/
structure St where
  out : List (List UInt8)
  s : Int
  n : Int
  rest : List UInt8

def step (t : St) (c : UInt8) : St :=
  if (stp t.s t.n c.toNat).1 = true then ⟨t.out ++ [t.rest ++ [c]], (stp t.s t.n c.toNat).2.1, (stp t.s t.n c.toNat).2.2, []⟩
  else ⟨t.out, (stp t.s t.n c.toNat).2.1, (stp t.s t.n c.toNat).2.2, t.rest ++ [c]⟩
def feed (t : St) (l : List UInt8) : St := l.foldl step t
theorem feed_append (t : St) (l m : List UInt8) : feed t (l ++ m) = feed (feed t l) m := List.foldl_append
theorem feed_nil (t : St) : feed t [] = t := rfl

/-- what holds of a state -/
structure Ok (t : St) : Prop where
  len : t.n = t.rest.length
  lt : t.n < 1024

theorem stp_fst (s n c : Int) : (stp s n c).2.2 = if (stp s n c).1 = true then 0 else n + 1 := by
  unfold stp
  split
  · simp
  · split <;> simp
theorem stp_zero (s n c : Int) (h : (stp s n c).1 = true) : (stp s n c).2.1 = 0 := by
  unfold stp at *
  split
  · rename_i h1; rw [if_pos h1] at h; cases h
  · rename_i h1; rw [if_neg h1] at h
    split
    · rename_i h2; rw [if_pos h2] at h; cases h
    · rfl

theorem step_ok (t : St) (c : UInt8) (h : Ok t) : Ok (step t c) := by
  have h0 := h.len
  have h1 := stp_n t.s t.n c.toNat (by omega) h.lt
  have h2 := stp_fst t.s t.n c.toNat
  unfold step
  split
  · rename_i hc
    rw [if_pos hc] at h2
    exact ⟨by simp [h2], by simp only; omega⟩
  · rename_i hc
    rw [if_neg hc] at h2
    exact ⟨by simp only [List.length_append, List.length_singleton]; omega, by simp only; omega⟩
theorem feed_ok : ∀ (l : List UInt8) (t : St), Ok t → Ok (feed t l)
  | [], _, h => h
  | c :: l, t, h => feed_ok l (step t c) (step_ok t c h)
theorem step_out (t : St) (c : UInt8) : (step t c).out.length ≤ t.out.length + 1 := by
  unfold step; split <;> simp
theorem feed_out : ∀ (l : List UInt8) (t : St), (feed t l).out.length ≤ t.out.length + l.length
  | [], _ => by simp [feed]
  | c :: l, t => by
    have h1 := feed_out l (step t c)
    have h2 := step_out t c
    simp only [feed, List.foldl_cons, List.length_cons] at *
    omega

/-- the bytes of texts, one behind the other -/
def flat (ps : List ByteArray) : List UInt8 := ps.flatMap fun p => p.data.toList
theorem flat_take (ps : List ByteArray) (k : Nat) (h : k < ps.length) : flat (ps.take (k + 1)) = flat (ps.take k) ++ ps[k].data.toList := by
  unfold flat
  rw [List.take_succ_eq_append_getElem h, List.flatMap_append]; simp
theorem flat_take_le (ps : List ByteArray) (k : Nat) : (flat (ps.take k)).length ≤ (flat ps).length := by
  unfold flat
  conv => rhs; rw [← List.take_append_drop k ps, List.flatMap_append, List.length_append]
  omega

theorem own_ne2 {w : World} {base base' : Nat} {e e' : TypeId} {size size' n n' : Nat} {v v' : Value} {xs xs' : List Value} (h : w.ownsRow base e size v n xs) (h' : w.ownsRow base' e' size' v' n' xs') (hT : e ≠ e') {k : Nat} (hk : v.ownBlock = some k) (hk' : v'.ownBlock = some k) : False := by
  rcases h.2 with ⟨rfl, _⟩ | ⟨g, cap, cur, rfl, hg, hh, _⟩
  · cases hk
  · rcases h'.2 with ⟨rfl, _⟩ | ⟨g', cap', cur', rfl, hg', hh', _⟩
    · cases hk'
    · simp [Value.ownBlock] at hk hk'
      subst hk; subst hk'
      rw [hh] at hh'
      simp at hh'
      exact hT hh'.2

theorem texts_t : SliceT Try.prog 34 9 1 16 := ⟨Try.underlying34, by decide, _, .string ByteArray.empty, rfl, rfl, rfl, rfl, rfl⟩
theorem sv_append (l m : List (List UInt8)) : sv (l ++ m) = sv l ++ sv m := by simp [sv]
theorem sv_length (l : List (List UInt8)) : (sv l).length = l.length := by simp [sv]

theorem seg_next (l : List UInt8) (f i : Nat) (h : i < l.length) (hf : f ≤ i) : (l.drop f).take (i + 1 - f) = (l.drop f).take (i - f) ++ [l[i]] := by
  have e : i + 1 - f = (i - f) + 1 := by omega
  rw [e, List.take_succ_eq_append_getElem (by rw [List.length_drop]; omega)]
  congr 2
  rw [List.getElem_drop]
  congr 1; omega

theorem slice_seg (p : ByteArray) (f i : Nat) (hf : f ≤ i) (h : i < p.size) (w' : World) : (Instr.slice 9 (.string p) (some (.int .i64 (f : Int))) (some (.int .i64 ((i : Int) + 1))) none).run Try.prog w' = .ok (.string ⟨((p.data.toList.drop f).take (i + 1 - f)).toArray⟩) w' := by
  rw [run_slice_string w' 9 p .i64 .i64 (f : Int) ((i : Int) + 1) Try.underlying9 (by omega) (by omega) (by omega)]
  congr 2
  apply ByteArray.ext
  apply Array.toList_inj.1
  have e : ((i : Int) + 1).toNat = i + 1 := by omega
  simp [ByteArray.data_extract, e, Array.toList_extract, List.extract]
theorem slice_from (p : ByteArray) (f : Nat) (h : f ≤ p.size) (w' : World) : (Instr.slice 9 (.string p) (some (.int .i64 (f : Int))) none none).run Try.prog w' = .ok (.string ⟨(p.data.toList.drop f).toArray⟩) w' := by
  rw [run_slice_string_from_if w' 9 p .i64 (f : Int) Try.underlying9, if_pos (by omega)]
  congr 2
  apply ByteArray.ext
  apply Array.toList_inj.1
  simp [ByteArray.data_extract, Array.toList_extract, List.extract]
  exact List.take_of_length_le (by simp)

set_option maxRecDepth 100000 in
set_option maxHeartbeats 4000000 in
theorem write_calls (base b : Nat) (t0 : St) (A : Option Addr) (c : Nat) (ps : List ByteArray) (w : World) (hC : Cut w base b t0.s t0.n t0.rest) (hok : Ok t0) (hout : t0.out = []) (hbase : base ≤ b) (hA : Cells w A (ps.map .string)) (hAb : ∀ a, A = some a → a.block ≠ b ∧ ¬ ByteRow w a.block)
    (hlen : (flat ps).length ≤ 1000000000) (hps : ps.length ≤ 140737488355328) :
    Calls Try.prog 17 #[.pointer (some ⟨b, 0, none⟩), .slice A ps.length c] w fun e w' => ∃ v, e = .returned v ∧
      w'.ownsRow w.heap.size 9 1 v (feed t0 (flat ps)).out.length (sv (feed t0 (flat ps)).out) ∧ Cut w' base b (feed t0 (flat ps)).s (feed t0 (flat ps)).n (feed t0 (flat ps)).rest ∧ ModB base b w w' := by
  have HC := Lib.hid hC
  have HA := Lib.hid hA
  have HAB := Lib.hid hAb
  have HOK := Lib.hid hok
  clear hC hA hAb hok
  go_enter Try.func17, Try.ntmps17
  go_wp2_with fail
  go_loopw [5, 14] (fun out i w' => ∃ (k : Nat) (t : St), i = .int .i64 k ∧ k ≤ ps.length ∧ Hid (t = feed t0 (flat (ps.take k))) ∧ w'.ownsRow w.heap.size 9 1 out t.out.length (sv t.out) ∧ Hid (Cut w' base b t.s t.n t.rest) ∧ Hid (ModB base b w w'))
    (fun _ i _ => ps.length - (intOf i).toNat)
  case atStart => exact ⟨0, t0, by go_num, by omega, Lib.hid rfl, by rw [hout]; exact World.ownsRow_nil _ _ _ _, HC, Lib.hid (ModB.refl _ _ _)⟩
  case round =>
    obtain ⟨k, t, rfl, hk, HT, hown, HC, HM⟩ := hrel
    by_cases hlt : k < ps.length
    · rcases HA.out with h | ⟨ab, ao, rfl, hcell⟩
      · simp at h; subst h; simp at hlt
      obtain ⟨p, hp⟩ : ∃ p, ps[k] = p := ⟨_, rfl⟩
      have c1 := hcell k (.string p) (by rw [List.getElem?_map, List.getElem?_eq_getElem hlt, hp]; rfl)
      have hab := HAB.out _ rfl
      rw [← Mod.cell HM.out (p := ⟨ab, ao + k, none⟩) (World.block_lt_of_cell? w _ c1) (fun hs => by rcases hs with hs | ⟨_, h3⟩; exact hab.1 hs; exact hab.2 h3)] at c1
      have hft := flat_take ps k hlt
      have hle := flat_take_le ps (k + 1)
      rw [hp] at hft
      rw [hft, List.length_append] at hle
      have HFT := Lib.hid hft
      have i1 : (k : Int) < (ps.length : Int) := by omega
      have hpz : p.data.toList.length = p.size := by simp
      have hbo : t.out.length ≤ (flat (ps.take k)).length := by have := feed_out (flat (ps.take k)) t0; rw [← HT.out, hout] at this; simpa using this
      have hokt : Ok t := HT.out ▸ feed_ok _ _ HOK.out
      clear hcell hft hab hp
      go_wp2_with fail
      go_loopw [5, 8, 20] (fun out fr i w' => ∃ (i0 f : Nat) (u : St) (rb : List UInt8), i = .int .i64 i0 ∧ fr = .int .i64 f ∧ f ≤ i0 ∧ i0 ≤ p.size ∧ Hid (u = feed t (p.data.toList.take i0)) ∧ Hid (u.rest = rb ++ (p.data.toList.drop f).take (i0 - f)) ∧
        w'.ownsRow w.heap.size 9 1 out u.out.length (sv u.out) ∧ Hid (Cut w' base b u.s u.n rb) ∧ Hid (ModB base b w w')) (fun _ _ i _ => p.size - (intOf i).toNat)
      case atStart => exact ⟨0, 0, t, t.rest, by go_num, by go_num, by omega, by omega, Lib.hid rfl, Lib.hid (by simp), hown, HC, HM⟩
      case round =>
        obtain ⟨i, f, u, rb, rfl, rfl, hfi, hi, HU, HR, hown, HC, HM⟩ := hrel
        by_cases hlt2 : i < p.size
        · have i2 : (i : Int) < (p.size : Int) := by omega
          obtain ⟨q, v, hh, hq, hob⟩ := HC.out
          have hoku : Ok u := HU.out ▸ feed_ok _ _ hokt
          have hn := hoku.len
          have hln := hoku.lt
          have hun : u.rest.length = rb.length + (i - f) := by rw [HR.out, List.length_append, List.length_take, List.length_drop, Nat.min_eq_left (by omega)]
          have hbo2 : u.out.length ≤ t.out.length + i := by have := feed_out (p.data.toList.take i) t; rw [← HU.out, List.length_take, Nat.min_eq_left (by omega)] at this; exact this
          have hec := ends_calls b u.s u.n p[i].toNat [q, v] 51 wr.drew hh.drew (by omega) (by omega)
          have hseg := seg_next p.data.toList f i (by omega) hfi
          have hpi : p.data.toList[i] = p[i] := rfl
          rw [hpi] at hseg
          have hu1 : feed t (p.data.toList.take (i + 1)) = step u p[i] := by
            rw [List.take_succ_eq_append_getElem (by omega), feed_append, ← HU.out]; rfl
          have hstep : step u p[i] = if (stp u.s u.n p[i].toNat).1 = true then ⟨u.out ++ [u.rest ++ [p[i]]], (stp u.s u.n p[i].toNat).2.1, (stp u.s u.n p[i].toNat).2.2, []⟩
              else ⟨u.out, (stp u.s u.n p[i].toNat).2.1, (stp u.s u.n p[i].toNat).2.2, u.rest ++ [p[i]]⟩ := rfl
          have hsl := slice_seg p f i hfi hlt2
          rw [hseg] at hsl
          have hrs : rb ++ ((p.data.toList.drop f).take (i - f) ++ [p[i]]) = u.rest ++ [p[i]] := by rw [HR.out, List.append_assoc]
          have hsl2 : ((p.data.toList.drop f).take (i - f) ++ [p[i]]).length = i - f + 1 := by rw [List.length_append, List.length_take, List.length_drop, Nat.min_eq_left (by omega)]; rfl
          obtain ⟨seg, hsg⟩ : ∃ seg, (p.data.toList.drop f).take (i - f) ++ [p[i]] = seg := ⟨_, rfl⟩
          rw [hsg] at hsl hrs hsl2 hseg
          have HEC := Lib.hid hec
          have HSG := Lib.hid hseg
          have HU1 := Lib.hid (hu1.trans hstep)
          have HRS := Lib.hid hrs
          have HH := Lib.hid hh
          have HOB := Lib.hid hob
          clear hec hh hob hseg hu1 hstep hpi hrs hsg HU
          go_wp2_with fail
          refine region_tail 6 (by kernel_rfl) (by kernel_rfl) ?_
          simp only [List.take_succ_cons, List.take_zero, List.drop_succ_cons, List.drop_zero]
          repeat still_step
          refine wpStill_nil ?_
          go_wp2_with fail
          refine HEC.out.mono ?_
          rintro e w1 ⟨rfl, hh1, hm1⟩
          have hne : v.ownBlock ≠ some b := own_ne HOB.out HH.out (by decide)
          have hob1 := own_keep (w := wr.drew) HOB.out hm1 (fun k _ hk e => hne (by rw [hk, e]))
          have hmb : ModB base b wr.drew w1 := ModB.of hm1
          have hown1 := hmb.keepOwn hown (by decide) HH.out.drew (by decide)
          have HM1 := Lib.hid (ModB.trans (Mod.drew HM.out) hmb)
          have hst := stp_n u.s u.n p[i].toNat (by omega) hln
          generalize stp u.s u.n p[i].toNat = rr at hst hh1 HU1
          obtain ⟨b1, s1, n1⟩ := rr
          clear HEC hm1 hmb hown HM HH HOB
          cases b1 with
          | false =>
            rw [if_neg (by simp)] at HU1
            have HC1 : Hid (Cut w1 base b s1 n1 rb) := Lib.hid ⟨_, _, hh1, hq, hob1⟩
            clear hh1 hob1 hsl
            go_wp2_with fail
            go_roundw
            case rel => exact ⟨i + 1, f, _, rb, by go_num, by go_num, by omega, by omega, Lib.hid HU1.out.symm, Lib.hid (by rw [HSG.out]; exact HRS.out.symm), hown1, HC1, HM1⟩
            case measure => simp [intOf]; omega
          | true =>
            rw [if_pos rfl] at HU1
            have hws := writeStr_calls base b 2 q v rb _ _ w1.drew ⟨seg.toArray⟩ hh1.drew rfl rfl hq lies_cutter hob1 (by decide) (by have := HM1.out.size; have := hh1.lt; show base ≤ w1.heap.size; omega) (by simp [ByteArray.size]; omega)
            have HW := Lib.hid hws
            have HH := Lib.hid hh1
            have HOB := Lib.hid hob1
            clear hws hh1 hob1
            go_wp2_with fail
            refine region_tail 8 (by kernel_rfl) (by kernel_rfl) ?_
            simp only [List.take_succ_cons, List.take_zero, List.drop_succ_cons, List.drop_zero]
            repeat still_step
            simp only [show IntKind.i64.wrap ((i : Int) + 1) = (i : Int) + 1 by simp only [IntKind.wrap_i64]; omega]
            repeat still_step
            refine wpStill_nil ?_
            go_wp2_with fail
            refine HW.out.mono ?_
            rintro e w2 ⟨rfl, v', hh2, hob2, hm2⟩
            have hmb : ModB base b w1.drew w2 := ModB.own hm2 HOB.out
            have hown2 := hmb.keepOwn hown1 (by decide) HH.out.drew (by decide)
            have HM2 := Lib.hid (ModB.trans (Mod.drew HM1.out) hmb)
            have hrs2 : rb ++ seg = u.rest ++ [p[i]] := HRS.out
            have hob3 : w2.ownsRow base 5 1 v' (u.rest ++ [p[i]]).length (bv (u.rest ++ [p[i]])) := by rw [← hrs2]; exact hob2
            have htk := take_calls base b s1 n1 (u.rest ++ [p[i]]) w2 ⟨_, v', hh2, .inr rfl, hob3⟩ (by simp)
            have HT2 := Lib.hid htk
            have HH2 := Lib.hid hh2
            clear htk hob3 hob2 hm2 hmb hown1 HM1 HW HH HOB hrs2 hsl hh2
            go_wp2_with fail
            refine HT2.out.mono ?_
            rintro e w3 ⟨rfl, hc3, hmb⟩
            have hown3 := hmb.keepOwn hown2 (by decide) HH2.out (by decide)
            have HM3 := Lib.hid (ModB.trans HM2.out hmb)
            obtain ⟨q3, v3, hh3, hq3, hob3⟩ := hc3
            have HH3 := Lib.hid hh3
            have HOB3 := Lib.hid hob3
            have hsz3 := HM3.out.size
            obtain ⟨ch, hch⟩ : ∃ ch, u.rest ++ [p[i]] = ch := ⟨_, rfl⟩
            simp only [hch] at HU1 ⊢
            have hwo : (u.out.length + 1) * 16 ≤ 140737488355328 := by omega
            have hwm : u.out.length + 1 ≤ maxLen := by unfold maxLen; omega
            clear hmb hown2 HM2 HT2 HH2 hch hh3 hob3
            go_wp2_with (first
              | fail
              | (at_builtin; go_must (refine app _ _ texts_t w.heap.size _ u.out.length (sv u.out) (hown3.alloc _) _ 1 1 [.string ⟨ch.toArray⟩] rfl rfl rfl rfl rfl (one_new _ _ _) (by simp [Value.oneCell']) hwo hwm (by simp; omega) ?_; intro v4 w4 hown4 hm4)))
            have hhb := HH3.out.alloc (.cells #[.string ⟨ch.toArray⟩] 9)
            have hobb := HOB3.out.alloc (.cells #[.string ⟨ch.toArray⟩] 9)
            have hownb := hown3.alloc (.cells #[.string ⟨ch.toArray⟩] 9)
            have hh4 := hhb.keep hm4 (fun ⟨_, hk⟩ => own_ne hownb hhb (by decide) hk)
            have hob4 := own_keep hobb hm4 (fun k _ hk ⟨_, he⟩ => own_ne2 hobb hownb (by decide) hk he)
            have HC4 : Hid (Cut w4 base b s1 n1 []) := Lib.hid ⟨q3, v3, hh4, hq3, hob4⟩
            have HM4 : Hid (ModB base b w w4) := Lib.hid (Mod.trans (Mod.alloc HM3.out _) hm4 (fun i hi ⟨h, _⟩ => absurd h (by omega)))
            clear hhb hobb hownb hh4 hob4 hm4 HM3 HH3 HOB3 hown3
            go_wp2_with fail
            go_roundw
            case rel => exact ⟨i + 1, i + 1, _, [], by go_num, by go_num, by omega, by omega, Lib.hid HU1.out.symm, Lib.hid (by simp), by simpa [sv] using hown4, HC4, HM4⟩
            case measure => simp [intOf]; omega
        · obtain rfl : i = p.size := by omega
          have hU := HU.out
          rw [List.take_of_length_le (by omega)] at hU
          have hR := HR.out
          rw [List.take_of_length_le (by rw [List.length_drop]; omega)] at hR
          have hsl := slice_from p f (by omega)
          obtain ⟨q, v, hh, hq, hob⟩ := HC.out
          have hoku : Ok u := HU.out ▸ feed_ok _ _ hokt
          have hn := hoku.len
          have hln := hoku.lt
          rw [hR, List.length_append] at hn
          obtain ⟨seg, hseg⟩ : ∃ seg, p.data.toList.drop f = seg := ⟨_, rfl⟩
          rw [hseg] at hsl hR hn
          have hsz := HM.out.size
          have hlt0 := hh.lt
          have hws := writeStr_calls base b 2 q v rb _ _ wr.drew ⟨seg.toArray⟩ hh.drew rfl rfl hq lies_cutter hob (by decide) (by show base ≤ wr.heap.size; omega) (by simp [ByteArray.size]; omega)
          have HW := Lib.hid hws
          have HH := Lib.hid hh
          have HOB := Lib.hid hob
          have HU := Lib.hid hU
          have HR := Lib.hid hR
          clear hws hh hob hU hR hseg hn
          go_wp2_with fail
          refine region_tail 6 (by kernel_rfl) (by kernel_rfl) ?_
          simp only [List.take_succ_cons, List.take_zero, List.drop_succ_cons, List.drop_zero]
          repeat still_step
          refine wpStill_nil ?_
          go_wp2_with fail
          refine HW.out.mono ?_
          rintro e w1 ⟨rfl, v', hh1, hob1, hm1⟩
          have hmb : ModB base b wr.drew w1 := ModB.own hm1 HOB.out
          have hown1 := hmb.keepOwn hown (by decide) HH.out.drew (by decide)
          have HM1 := Lib.hid (ModB.trans (Mod.drew HM.out) hmb)
          have HC1 : Hid (Cut w1 base b u.s u.n u.rest) := Lib.hid ⟨_, v', hh1, .inr rfl, by rw [HR.out]; exact hob1⟩
          clear hh1 hob1 hm1 hmb hown HC HM HW HH HOB hsl
          go_wp2_with fail
          go_roundw
          case rel => exact ⟨k + 1, u, by go_num, by omega, Lib.hid (by rw [HFT.out, feed_append, ← HT.out]; exact HU.out), hown1, HC1, HM1⟩
          case measure => simp [intOf]; omega
    · obtain rfl : k = ps.length := by omega
      have hT := HT.out
      rw [List.take_of_length_le (Nat.le_refl _)] at hT
      subst hT
      go_wp2_with fail
      go_ret
      exact ⟨_, rfl, hown, HC.out, HM.out⟩
end Gear
end Go.Proofs.Ytjcdekipkpmniaa
