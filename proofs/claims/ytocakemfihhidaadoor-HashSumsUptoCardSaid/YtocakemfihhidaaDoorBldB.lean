/- strings.Builder: WriteByte. -/
import Derived.Test.YtocakemfihhidaaDoorBld
namespace Go.Proofs.YtocakemfihhidaaDoor
open Go.RowKit
namespace K
set_option maxRecDepth 100000 in
set_option maxHeartbeats 1000000 in
theorem writeByte_calls (base b o : Nat) (p v : Value) (l : List UInt8) (cs : List Value) (T : TypeId) (w : World) (c : UInt8) (h : Has w b cs T) (h0 : cs[o]? = some p) (h1 : cs[o + 1]? = some v) (hp : Addr0 b o p)
    (hl : liesAt Tryd.prog Tryd.prog.depth T (cs.length / Tryd.prog.cellsOf T) o 50 1 = true) (hown : w.ownsRow base 5 1 v l.length (bv l)) (hT : T ≠ 5) (hbase : base ≤ w.heap.size) (hlen : l.length + 1 ≤ 140737488355328) :
    Calls Tryd.prog 25 #[.pointer (some ⟨b, o, none⟩), .int .u8 c.toNat] w fun e w' => e = .returned .nilIface ∧
      ∃ v', Has w' b ((cs.set o (.pointer (some ⟨b, o, none⟩))).set (o + 1) v') T ∧ w'.ownsRow base 5 1 v' (l ++ [c]).length (bv (l ++ [c])) ∧ Mod (fun k => k = b ∨ (base ≤ k ∧ v.ownBlock = some k)) w w' := by
  have hne : v.ownBlock ≠ some b := own_ne hown h hT
  have hck := check_calls b o p cs T w h h0 hp hl
  have ho : o + 1 < cs.length := (List.getElem?_eq_some_iff.1 h1).1
  have HC := Lib.hid hck
  have HH := Lib.hid h
  clear hck h h0 hl
  go_enter Tryd.func25, Tryd.ntmps25
  go_wp2_with fail
  refine HC.out.mono ?_
  rintro e w1 ⟨rfl, hh, hm⟩
  have c1 := hh.cell (o := o + 1) (v := v) (by rw [List.getElem?_set_ne (by omega)]; exact h1)
  have hown1 := own_keep hown hm (fun k _ hk e => hne (by rw [hk, e]))
  have hsz := hm.size
  have HM := Lib.hid hm
  clear hm hown HC
  go_wp2_with (first
    | fail
    | (at_builtin
       go_must (refine app _ _ str_t base v l.length (bv l) (hown1.alloc _) _ 1 1 [.int .u8 c.toNat] rfl rfl rfl rfl rfl (one_new _ _ _) (by simp [Value.oneCell']) (by omega) (by unfold maxLen; omega) (by simp; omega) ?_; intro v' w2 hown2 hm2)
       have hh2 := (hh.alloc (.cells #[.int .u8 c.toNat] 5)).keep hm2 (fun ⟨_, hk⟩ => hne hk)
       have c2 := hh2.cell (o := o + 1) (v := v) (by rw [List.getElem?_set_ne (by omega)]; exact h1)
       have f2 := hh2.frozen (o + 1)
       have hne2 : v'.ownBlock ≠ some b := own_ne hown2 hh2 hT
       have hm3 : Mod (fun k => k = b ∨ (base ≤ k ∧ v.ownBlock = some k)) w w2 := Mod.trans (Mod.alloc (Mod.mono HM.out (fun _ _ h => .inl h)) _) hm2 (fun _ _ h => .inr h)
       have HX := Lib.hid (hh2.set (o + 1) v')
       have HY := Lib.hid (hm3.set1 (b := b) (.inl rfl) (o + 1) v')
       have HZ := Lib.hid (own_keep hown2 ((Mod.refl (· = b) w2).set1 rfl (o + 1) v') (fun k _ hk e => hne2 (by rw [hk, e])))
       clear hh2 hm2 hm3
       obtain ⟨A2, c2, rfl, -, -, -, -⟩ := own_cells hown2
       clear hown2))
  go_wp2_with fail
  go_ret
  refine ⟨rfl, _, HX.out, ?_, HY.out⟩
  rw [bv_append, List.length_append]
  exact HZ.out

end K
end Go.Proofs.YtocakemfihhidaaDoor
