/- The walk of the reference's constants. -/
import Derived.Test.YtenamjldkaggcaaDoorHashS
import Derived.Deep.WholeRow
import Derived.Lib.FrozenHead
namespace Go.Proofs.YtenamjldkaggcaaDoor
set_option linter.unusedVariables false
set_option linter.unusedSimpArgs false
open Go.RowKit K
namespace Hash

/-- an operation whose run is known -/
theorem wpList_val {P : Program} {ops : Array Oper} {rest : List Oper} {o : Oper} {a : Act} {w : World} {Q : Exit → Act → World → Prop} (v : Value) (t : TypeId) (ks : Array (Nat × Operand)) (_ho : o.op = .build t ks) (hg : o.guard = none)
    (hrun : (execOp a.eval o).run P w = .ok (.value v) w) (h : wpList P ops Q rest (a.put o.dst v) w) : wpList P ops Q (o :: rest) a w :=
  wpList_plain hg fun K hK => by unfold Oper.wp; rw [hrun]; exact hK _ _ h


set_option maxRecDepth 100000 in
set_option maxHeartbeats 4000000 in
theorem constants_calls (w : World) : Calls Tryd.prog 104 #[] w fun e w' => e = .returned (.agg (uv keysL).toArray) ∧ Mod (fun _ => False) w w' := by
  obtain ⟨V, hV⟩ : ∃ V, uv keysL = V := ⟨_, rfl⟩
  have HV := Lib.hid hV
  have hVl : V.length = 64 := by rw [← hV, uv_len]; rfl
  have HV1 : Hid (∀ u ∈ V, u.oneCell' = true) := Lib.hid (by rw [← hV]; intro u hu; obtain ⟨x, _, rfl⟩ := List.mem_map.1 hu; rfl)
  rw [hV]
  clear hV
  have hst : (storeCells ⟨w.heap.size, 0, none⟩ V 0).run Tryd.prog (w.alloc (.cells #[.int .u32 0, .int .u32 0, .int .u32 0, .int .u32 0, .int .u32 0, .int .u32 0, .int .u32 0, .int .u32 0, .int .u32 0, .int .u32 0, .int .u32 0, .int .u32 0, .int .u32 0, .int .u32 0, .int .u32 0, .int .u32 0, .int .u32 0, .int .u32 0, .int .u32 0, .int .u32 0, .int .u32 0, .int .u32 0, .int .u32 0, .int .u32 0, .int .u32 0, .int .u32 0, .int .u32 0, .int .u32 0, .int .u32 0, .int .u32 0, .int .u32 0, .int .u32 0, .int .u32 0, .int .u32 0, .int .u32 0, .int .u32 0, .int .u32 0, .int .u32 0, .int .u32 0, .int .u32 0, .int .u32 0, .int .u32 0, .int .u32 0, .int .u32 0, .int .u32 0, .int .u32 0, .int .u32 0, .int .u32 0, .int .u32 0, .int .u32 0, .int .u32 0, .int .u32 0, .int .u32 0, .int .u32 0, .int .u32 0, .int .u32 0, .int .u32 0, .int .u32 0, .int .u32 0, .int .u32 0, .int .u32 0, .int .u32 0, .int .u32 0, .int .u32 0] 152)) = .ok () (w.alloc (.cells V.toArray 152)) := by
    have h := run_storeCells_new (P := Tryd.prog) w 152 #[.int .u32 0, .int .u32 0, .int .u32 0, .int .u32 0, .int .u32 0, .int .u32 0, .int .u32 0, .int .u32 0, .int .u32 0, .int .u32 0, .int .u32 0, .int .u32 0, .int .u32 0, .int .u32 0, .int .u32 0, .int .u32 0, .int .u32 0, .int .u32 0, .int .u32 0, .int .u32 0, .int .u32 0, .int .u32 0, .int .u32 0, .int .u32 0, .int .u32 0, .int .u32 0, .int .u32 0, .int .u32 0, .int .u32 0, .int .u32 0, .int .u32 0, .int .u32 0, .int .u32 0, .int .u32 0, .int .u32 0, .int .u32 0, .int .u32 0, .int .u32 0, .int .u32 0, .int .u32 0, .int .u32 0, .int .u32 0, .int .u32 0, .int .u32 0, .int .u32 0, .int .u32 0, .int .u32 0, .int .u32 0, .int .u32 0, .int .u32 0, .int .u32 0, .int .u32 0, .int .u32 0, .int .u32 0, .int .u32 0, .int .u32 0, .int .u32 0, .int .u32 0, .int .u32 0, .int .u32 0, .int .u32 0, .int .u32 0, .int .u32 0, .int .u32 0] V.toArray (by simp [hVl]; exact ⟨_, rfl, rfl⟩) (by simp [hVl]) (by simpa using HV1.out)
    simpa using h
  go_enter Tryd.func104, Tryd.ntmps104
  go_wp2_with (first
    | fail
    | (refine wpList_val (.agg V.toArray) 152 _ rfl rfl (by rw [← HV.out]; kernel_rfl) ?_))
  refine bodyPost_ret (results_cell_row (P := Tryd.prog) rfl _ _ w.heap.size 152 _ (0, 0) _ rfl (Has.new w V 152) Tryd.underlying152 rfl ?hi) rfl ?_
  case hi => simp [hVl]; exact ⟨_, rfl, rfl⟩
  exact ⟨rfl, Mod.alloc (Mod.refl _ _) _⟩
end Hash
end Go.Proofs.YtenamjldkaggcaaDoor
