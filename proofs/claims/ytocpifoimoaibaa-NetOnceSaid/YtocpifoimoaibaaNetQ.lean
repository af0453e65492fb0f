/- Plain words for NetOnce: what holds behind each Ask. -/
import Derived.Test.YtocpifoimoaibaaNetP
namespace Go.Proofs.Ytocpifoimoaibaa
set_option linter.unusedVariables false
set_option linter.unusedSimpArgs false
open Go.RowKit K Go.Maps
namespace Net

def Two (l : List ByteArray) : Prop := ∀ x ∈ l, x.size = 2
theorem Two.nil : Two [] := fun _ h => by cases h
theorem goes_two (f : Fate) (s : ByteArray) (ws : List ByteArray) (hs : s.size = 2) (hw : Two ws) : Two (goes f s ws).1 ∧ Two (goes f s ws).2 :=
  goes_all (P := fun x => x.size = 2) f s ws hs hw (fun x a b h => by rw [trnB_size]; exact h)
theorem fold_fit {V : Srv (List ByteArray)} (hV : Notes V) : ∀ (come : List ByteArray) (x : AS (List ByteArray)), Two come → Two x.wb → Two x.out → FWf x.l →
    Two (come.foldl V.back x).wb ∧ Two (come.foldl V.back x).out ∧ FWf (come.foldl V.back x).l ∧ (come.foldl V.back x).out.length + (come.foldl V.back x).wb.length ≤ x.out.length + x.wb.length + 2 * come.length
  | [], x, _, h1, h2, h3 => ⟨h1, h2, h3, by simp⟩
  | c :: come, x, hc, h1, h2, h3 => by
    have hc1 := hc c (List.mem_cons_self ..)
    rw [List.foldl_cons, back_notes hV x c (by omega)]
    have hg := goes_two (hd x.l) c x.wb hc1 h1
    have hl := goes_len (hd x.l) c x.wb
    obtain ⟨a1, a2, a3, a4⟩ := fold_fit hV come ⟨x.out ++ (goes (hd x.l) c x.wb).1, x.l.tail, (goes (hd x.l) c x.wb).2, x.st ++ [c]⟩ (fun y hy => hc y (List.mem_cons_of_mem _ hy)) hg.2 (fun y hy => by
      rcases List.mem_append.1 hy with h | h
      · exact h2 y h
      · exact hg.1 y h) h3.tail
    refine ⟨a1, a2, a3, Nat.le_trans a4 ?_⟩
    simp only [List.length_append, List.length_cons]
    omega
structure Fit (L0 : Nat) (ks : List Int) (k : Nat) (l : List Fate) (wt wb st got : List ByteArray) : Prop where
  onc : Onc L0 ks [] l wt wb st got
  wt2 : Two wt
  wb2 : Two wb
  wf : FWf l
  lt : st.length + wt.length ≤ 2 * k
  lb : got.length + wb.length ≤ 2 * st.length
theorem Fit.ask {V : Srv (List ByteArray)} (hV : Notes V) {L0 : Nat} {ks : List Int} {k : Nat} {l : List Fate} {wt wb st got : List ByteArray} (h : Fit L0 ks k l wt wb st got) (s : ByteArray) (hs : keyF s ∉ ks) (h2 : s.size = 2) :
    Fit L0 (ks ++ [keyF s]) (k + 1) (V.asks (goes (hd l) s wt).1 l.tail wb st).l (goes (hd l) s wt).2 (V.asks (goes (hd l) s wt).1 l.tail wb st).wb (V.asks (goes (hd l) s wt).1 l.tail wb st).st (got ++ (V.asks (goes (hd l) s wt).1 l.tail wb st).out) ∧
      Two (V.asks (goes (hd l) s wt).1 l.tail wb st).out ∧ (V.asks (goes (hd l) s wt).1 l.tail wb st).l.length ≤ l.length - 1 ∧
      (l = [] → (V.asks (goes (hd l) s wt).1 l.tail wb st).l = [] ∧ (goes (hd l) s wt).2 = [] ∧ (V.asks (goes (hd l) s wt).1 l.tail wb st).wb = []) := by
  have hg := goes_two (hd l) s wt h2 h.wt2
  have hl := goes_len (hd l) s wt
  have hne : ∀ c ∈ (goes (hd l) s wt).1, c.size ≠ 0 := fun c hc => by have := hg.1 c hc; omega
  have h1 := h.onc.send s hs
  have h3 := onc_asks hV (got := got) (goes (hd l) s wt).1 ⟨[], l.tail, wb, st⟩ hne (by rw [List.append_nil]; exact h1)
  obtain ⟨a1, a2, a3⟩ := asks_tail hV (goes (hd l) s wt).1 ⟨[], l.tail, wb, st⟩ hne
  obtain ⟨b1, b2, b3, b4⟩ := fold_fit hV (goes (hd l) s wt).1 ⟨[], l.tail, wb, st⟩ hg.1 h.wb2 Two.nil h.wf.tail
  dsimp only at a1 a2
  unfold Srv.asks
  have q1 := h.lt
  have q2 := h.lb
  simp only [List.length_nil, Nat.zero_add] at b4
  refine ⟨⟨h3, hg.2, b1, b3, ?_, ?_⟩, b2, ?_, ?_⟩
  · rw [a2, List.length_append]; omega
  · rw [a2]; simp only [List.length_append]; omega
  · rw [List.length_tail] at a1; exact a1
  · rintro rfl
    have hgo : goes (hd []) s wt = (s :: wt, []) := by simp [goes, hd, fate0]
    rw [hgo] at a3 ⊢
    have := a3 rfl (.inl (by simp))
    exact ⟨this.2, rfl, this.1⟩
/-- the keys of the frames of the loop -/
def ksN (k : Nat) : List Int := (List.range k).map (fun (i : Nat) => (i : Int))
theorem ksN_succ (k : Nat) : ksN (k + 1) = ksN k ++ [(k : Int)] := by simp [ksN, List.range_succ]
theorem ksN_mem {k : Nat} {x : Int} (h : x ∈ ksN k) : 0 ≤ x ∧ x < k := by
  obtain ⟨i, hi, rfl⟩ := List.mem_map.1 h
  have := List.mem_range.1 hi
  exact ⟨by omega, by omega⟩
theorem ksN_nodup (k : Nat) : (ksN k).Nodup := by
  induction k with
  | zero => simp [ksN]
  | succ k ih =>
    rw [ksN_succ, List.nodup_append]
    refine ⟨ih, by simp, fun a ha b hb e => ?_⟩
    obtain rfl := List.mem_singleton.1 hb
    have := ksN_mem ha
    omega
/-- what the last loop finds -/
theorem Fit.ends {L0 : Nat} {ks2 : List Int} {n k : Nat} {st got : List ByteArray} {l : List Fate} (h : Fit L0 (ksN n ++ ks2) k l [] [] st got) :
    (∀ k, cnt st k ≤ 2) ∧ (∀ k, cnt got k ≤ 4) ∧ (ksN n).countP (fun k => decide (cnt got k = 0)) ≤ L0 := by
  have hc : ∀ k, (ksN n ++ ks2).count k ≤ 1 := fun k => List.nodup_iff_count.1 h.onc.n k
  have h1 : ∀ k, cnt st k ≤ 2 := fun k => by
    have := h.onc.a k
    have := hc k
    simp only [cnt_app, cnt_nil] at *
    omega
  refine ⟨h1, fun k => ?_, ?_⟩
  · have := h.onc.b k
    have := h1 k
    simp only [cnt_app, cnt_nil] at *
    omega
  · have := h.onc.c
    rw [List.countP_append] at this
    simp only [List.nil_append] at this
    omega
theorem Fit.nil (l : List Fate) (hw : FWf l) (hn : NoTurn l) : Fit (loses l) [] 0 l [] [] [] [] :=
  ⟨⟨fun k => by simp [cnt_nil], fun k => by simp [cnt_nil], by simp, hn, List.nodup_nil⟩, Two.nil, Two.nil, hw, by simp, by simp⟩
end Net
end Go.Proofs.Ytocpifoimoaibaa
