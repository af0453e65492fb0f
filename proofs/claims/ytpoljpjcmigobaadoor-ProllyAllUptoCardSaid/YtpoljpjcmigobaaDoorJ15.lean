/- Joined texts: ObjI, ObjJ, ObjK. -/
import Derived.Test.YtpoljpjcmigobaaDoorJ14
/- The walks of the reference's Right functions. -/
namespace Go.Proofs.YtpoljpjcmigobaaDoor
set_option linter.unusedVariables false
set_option linter.unusedSimpArgs false
open Go.RowKit K Wire
namespace Obj

theorem inR_no {n lo hi : Int} (h : n < lo ∨ hi < n) : inR n lo hi = false := by
  unfold inR
  rcases h with h | h
  · rw [decide_eq_false (by omega)]; rfl
  · rw [decide_eq_false (p := n ≤ hi) (by omega)]; simp
theorem partOk_id {p : Part} (h : ¬ p.id.size = 32) : partOk p = false := by unfold partOk; rw [decide_eq_false h]; rfl
theorem partOk_small {p : Part} (h : p.size < 1) : partOk p = false := by unfold partOk; rw [inR_no (.inl h)]; simp
theorem partOk_big {p : Part} (h : 262144 < p.size) : partOk p = false := by unfold partOk; rw [inR_no (.inr h)]; simp
theorem rightFan_stop {level : Int} {kids : List Part} {p : Part} (hp : p ∈ kids) (h : partOk p = false) : rightFan level kids = false := by
  have : kids.all partOk = false := by
    rw [List.all_eq_false]; exact ⟨p, hp, by rw [h]; decide⟩
  unfold rightFan; rw [this]; simp

end Obj
end Go.Proofs.YtpoljpjcmigobaaDoor
/- The walks of the reference's Of, put, Chunk. -/
namespace Go.Proofs.YtpoljpjcmigobaaDoor
set_option linter.unusedVariables false
set_option linter.unusedSimpArgs false
open Go.RowKit K Wire
namespace Obj
theorem blocks_len (v : Hash.V8) : (v.list.flatMap (Hash.be 4)).length = 32 := by simp [Hash.V8.list, Hash.be_len]
theorem sha_len (l : List UInt8) : (Hash.sha l).length = 32 := blocks_len _
def objW (H : List UInt8) (s : ByteArray) : Value := .agg #[.string ⟨H.toArray⟩, .string s]
set_option maxRecDepth 100000 in
set_option maxHeartbeats 1000000 in
theorem rOf_calls (s : ByteArray) (w : World) (hs : s.size ≤ 1048576) :
    Calls Tryd.prog 83 #[.string s] w fun e w' => e = .returned (.agg #[.string ⟨(Hash.sha s.data.toList).toArray⟩, .string s]) ∧ Mod (fun _ => False) w w' := by
  have hlen : s.data.toList.length = s.size := by simp
  obtain ⟨c1, w1, hE, hM1, hC1, hN1, hx1, hg1, hf1, hrow⟩ := to_bytes s (w.alloc (.cells #[.string ⟨#[]⟩, .string ⟨#[]⟩] 59)) (by unfold maxLen; omega)
  rw [size_alloc] at hE hC1
  have hS := Hash.refSum_calls (w.heap.size + 1) 0 c1 s.data.toList w1 (.inr ⟨_, 0, rfl, fun j u hj => by rw [Nat.zero_add]; exact hC1 j u hj⟩) (by omega)
  rw [hlen] at hS
  have hR := (Has.new w [.string ⟨#[]⟩, .string ⟨#[]⟩] 59).keep hM1 (fun h => h)
  have hm1 := Mod.trans ((Mod.refl (fun _ => False) w).alloc (.cells #[.string ⟨#[]⟩, .string ⟨#[]⟩] 59)) hM1 (fun _ _ h => h)
  have HS := Lib.hid hS
  have HR := Lib.hid hR
  have HM := Lib.hid hm1
  have hshl : (Hash.sha s.data.toList).length = 32 := sha_len _
  generalize Hash.sha s.data.toList = H at *
  clear hS hR hm1 hC1 hM1 hf1 hrow
  go_enter Tryd.func83, Tryd.ntmps83
  go_wp2_with fail
  refine HS.out.mono ?_
  rintro e w2 ⟨v, rfl, ho, hm2⟩
  rw [← hshl] at ho
  obtain ⟨A2, c2, rfl, _, hcl, _, _⟩ := own_cells ho
  have hcv := run_bytes (P := Tryd.prog) c2 hcl 111 9 5 Tryd.underlying111 Tryd.underlying5 Tryd.underlying9
  rw [hshl] at hcv
  have hR2 := HR.out.keep hm2 (fun h => h)
  have z0 := hR2.cell (o := 0) rfl
  have z1 := hR2.cell (o := 1) rfl
  have k0 := hR2.frozen 0
  have k1 := hR2.frozen 1
  have HM2 := Lib.hid (Mod.trans HM.out hm2 (fun _ _ h => h))
  clear ho hcl hR2 hm2
  go_wp2_with fail
  refine bodyPost_ret (v := objW H s) (by simp [results, Tryd.results83, go_sem, objW, z0, z1]) rfl ⟨rfl, ?_⟩
  exact (HM2.out.setCell (p := ⟨w.heap.size, 0, none⟩) (.inr (Nat.le_refl _)) _).setCell (p := ⟨w.heap.size, 1, none⟩) (.inr (Nat.le_refl _)) _

set_option maxRecDepth 100000 in
set_option maxHeartbeats 1000000 in
theorem put_calls (A : Option Addr) (c : Nat) (l : List UInt8) (ok : Bool) (w : World) (hA : Cells w A (bv l)) (hl : ok = true → l.length ≤ 1048576) :
    Calls Tryd.prog 63 #[.slice A l.length c, .bool ok] w fun e w' => e = .returned (putV l (!ok)) ∧ Mod (fun _ => False) w w' := by
  cases ok with
  | false =>
    clear hl hA
    go_enter Tryd.func63, Tryd.ntmps63
    go_wp2_with fail
    refine bodyPost_ret (v := putV l true) (by simp [results, Tryd.results63, go_sem, putV]) rfl ⟨rfl, ?_⟩
    (repeat (first | with_reducible exact Mod.refl _ _ | with_reducible apply Mod.drew | with_reducible apply Mod.drewN | with_reducible apply Mod.alloc | refine Mod.set1 ?_ (by first | exact rfl | simp) _ _))
  | true =>
    have hl := hl rfl
    have hcv := run_bytes (P := Tryd.prog) c (hA.alloc (.cells #[.string ⟨#[]⟩, .string ⟨#[]⟩] 59)) 111 9 5 Tryd.underlying111 Tryd.underlying5 Tryd.underlying9
    have hO := rOf_calls ⟨l.toArray⟩ (w.alloc (.cells #[.string ⟨#[]⟩, .string ⟨#[]⟩] 59)) hl
    have HO := Lib.hid hO
    clear hO hA hl
    go_enter Tryd.func63, Tryd.ntmps63
    go_wp2_with fail
    refine HO.out.mono ?_
    rintro e w1 ⟨rfl, hm1⟩
    have hO2 := (Has.new w [.string ⟨#[]⟩, .string ⟨#[]⟩] 59).keep hm1 (fun h => h)
    have z0 := hO2.cell (o := 0) rfl
    have z1 := hO2.cell (o := 1) rfl
    have y0 := hO2.frozen 0
    have y1 := hO2.frozen 1
    have HM := Lib.hid (Mod.trans ((Mod.refl (fun _ => False) w).alloc _) hm1 (fun _ _ h => h))
    clear hO2 hm1 HO
    go_wp2_with fail
    refine bodyPost_ret (v := putV l false) (by simp [results, Tryd.results63, go_sem, putV, objV, z0, z1]) rfl ⟨rfl, ?_⟩
    exact (HM.out.setCell (p := ⟨w.heap.size, 0, none⟩) (.inr (Nat.le_refl _)) _).setCell (p := ⟨w.heap.size, 1, none⟩) (.inr (Nat.le_refl _)) _
end Obj
end Go.Proofs.YtpoljpjcmigobaaDoor
/- The walks of the reference's Chunk, Fan. -/
namespace Go.Proofs.YtpoljpjcmigobaaDoor
set_option linter.unusedVariables false
set_option linter.unusedSimpArgs false
open Go.RowKit K Wire
namespace Obj

/-- bytes that were answered, as what an append reads -/
theorem own_news {w : World} {base n : Nat} {v : Value} {l : List UInt8} (h : w.ownsRow base 5 1 v n (bv l)) (hl : 1 ≤ l.length) : ∃ b o c, v = .slice (some ⟨b, o, none⟩) l.length c ∧ ∀ j u, (bv l)[j]? = some u → w.cell? ((⟨b, o, none⟩ : Addr).add j) = some u := by
  have hn : n = l.length := by have := h.1; rw [bv_length] at this; omega
  subst hn
  obtain ⟨A, c, rfl, _, hcl, _, _⟩ := own_cells h
  rcases hcl with h0 | ⟨b, o, rfl, hcell⟩
  · cases l with
    | nil => simp at hl
    | cons a l => simp [bv] at h0
  · exact ⟨b, o, c, rfl, fun j u hj => by rw [Addr.add_lit]; exact hcell j u hj⟩

set_option maxRecDepth 100000 in
theorem put_false (A : Option Addr) (c : Nat) (l : List UInt8) (n : Nat) (w : World) :
    Calls Tryd.prog 63 #[.slice A n c, .bool false] w fun e w' => e = .returned (putV l (!false)) ∧ Mod (fun _ => False) w w' := by
  go_enter Tryd.func63, Tryd.ntmps63
  go_wp2_with fail
  refine bodyPost_ret (v := putV l true) (by simp [results, Tryd.results63, go_sem, putV]) rfl ⟨rfl, ?_⟩
  (repeat (first | with_reducible exact Mod.refl _ _ | with_reducible apply Mod.drew | with_reducible apply Mod.drewN | with_reducible apply Mod.alloc | refine Mod.set1 ?_ (by first | exact rfl | simp) _ _))

def fanH (level : Int) (kids : List Part) : List UInt8 := 70 :: (enc level ++ enc (kids.length : Int))
def fanP (level : Int) (kids : List Part) (k : Nat) : List UInt8 := fanH level kids ++ (kids.take k).flatMap partB
end Obj
end Go.Proofs.YtpoljpjcmigobaaDoor
