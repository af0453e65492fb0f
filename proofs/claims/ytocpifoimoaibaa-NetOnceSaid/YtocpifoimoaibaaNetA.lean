/- The walk of the net's Ask, whoever serves; Sent and Left. -/
import Derived.Test.YtocpifoimoaibaaNetY
namespace Go.Proofs.Ytocpifoimoaibaa
set_option linter.unusedVariables false
set_option linter.unusedSimpArgs false
open Go.RowKit K
namespace Net

theorem goes_len (f : Fate) (s : ByteArray) (ws : List ByteArray) : (goes f s ws).1.length + (goes f s ws).2.length ≤ ws.length + 2 ∧ (goes f s ws).2.length ≤ ws.length + 1 := by
  unfold goes
  (repeat' split) <;> simp <;> omega
theorem goes_all {P : ByteArray → Prop} (f : Fate) (s : ByteArray) (ws : List ByteArray) (hs : P s) (hw : ∀ x ∈ ws, P x) (ht : ∀ x a b, P x → P (trnB x a b)) : (∀ x ∈ (goes f s ws).1, P x) ∧ (∀ x ∈ (goes f s ws).2, P x) := by
  have hc : ∀ y, P y → ∀ x ∈ y :: ws, P x := fun y hy x hx => by
    rcases List.mem_cons.1 hx with rfl | hx
    · exact hy
    · exact hw x hx
  have hn : ∀ x ∈ ([] : List ByteArray), P x := fun x hx => by cases hx
  have hap : ∀ x ∈ ws ++ [s], P x := fun x hx => by
    rcases List.mem_append.1 hx with hx | hx
    · exact hw x hx
    · obtain rfl := List.mem_singleton.1 hx; exact hs
  unfold goes
  split
  · exact ⟨hn, hw⟩
  split
  · exact ⟨hn, hap⟩
  split
  · exact ⟨hc _ (ht _ _ _ hs), hn⟩
  split
  · exact ⟨fun x hx => by
      rcases List.mem_cons.1 hx with rfl | hx
      · exact hs
      · exact hc _ hs x hx, hn⟩
  · exact ⟨hc _ hs, hn⟩
theorem trnB_size (s : ByteArray) (a : Int) (b : UInt8) : (trnB s a b).size = s.size := by
  show (trn s.data.toList a b).toArray.size = _
  simp [trn]

theorem str_full (s : ByteArray) (h : 0 < s.size) : s.toList.isEmpty = false := by
  rw [ByteArray.toList_eq]
  cases h' : s.data.toList with
  | nil => have h1 : s.data.toList.length = 0 := by rw [h']; rfl
           have h2 : s.data.toList.length = s.size := by simp
           omega
  | cons _ _ => rfl
theorem str_none (s : ByteArray) (h : s.size = 0) : s = ByteArray.empty := by
  have h2 : s.data.toList.length = 0 := by simpa using h
  have h3 : s.data.toList = [] := List.eq_nil_of_length_eq_zero h2
  cases s with | mk d => cases d with | mk l => simp at h3; subst h3; rfl

/-- who serves: what it keeps (I), what it answers (step); Pt, Pb: frames there, and back -/
structure Srv (σ : Type) where
  I : σ → (Nat → Prop) → World → Prop
  step : σ → ByteArray → ByteArray × σ
  cost : σ → Nat
  Pt : ByteArray → Prop
  Pb : ByteArray → Prop
  ks : Nat
  caps : Array Value
  own : Nat → Prop
def Srv.post {σ : Type} (V : Srv σ) (st : σ) (s : ByteArray) (F : Nat → Prop) (w : World) (e : Ending) (w' : World) : Prop :=
  ∃ F', e = .returned (.string (V.step st s).1) ∧ V.I (V.step st s).2 F' w' ∧ Mod (fun k => F k ∧ V.own k) w w' ∧ (∀ k, F' k → F k ∨ w.heap.size ≤ k)
structure SrvOk {σ : Type} (V : Srv σ) : Prop where
  keep : ∀ st F w w' S, V.I st F w → Mod S w w' → (∀ k, F k → ¬ S k) → V.I st F w'
  lt : ∀ st F w k, V.I st F w → F k → k < w.heap.size
  cost : ∀ st s, V.cost (V.step st s).2 ≤ V.cost st + 1
  pt : ∀ s, V.Pt s → s.size ≤ maxLen ∧ 0 < s.size
  pb : ∀ s, V.Pb s → s.size ≤ maxLen ∧ 0 < s.size
  ptt : ∀ s a b, V.Pt s → V.Pt (trnB s a b)
  pbt : ∀ s a b, V.Pb s → V.Pb (trnB s a b)
  ans : ∀ st F w s, V.I st F w → V.Pt s → 0 < (V.step st s).1.size → V.Pb (V.step st s).1
  enter : ∀ (w : World) s, (callFunc V.ks (#[.string s] ++ V.caps)).run Try.prog w = .ok (.enter V.ks (#[.string s] ++ V.caps)) w
  call : ∀ st F w s, V.I st F w → V.Pt s → V.cost st ≤ 1000000 → Calls Try.prog V.ks (#[.string s] ++ V.caps) w (V.post st s F w)
def Srv.f {σ : Type} (V : Srv σ) : Value := .func (.func V.ks) #[] V.caps

/-- what came back so far, the fates that are left, what waits on the way back, what who serves keeps -/
structure AS (σ : Type) where
  out : List ByteArray
  l : List Fate
  wb : List ByteArray
  st : σ
def Srv.back {σ : Type} (V : Srv σ) (x : AS σ) (c : ByteArray) : AS σ :=
  if (V.step x.st c).1.size = 0 then { x with st := (V.step x.st c).2 } else
    ⟨x.out ++ (goes (hd x.l) (V.step x.st c).1 x.wb).1, x.l.tail, (goes (hd x.l) (V.step x.st c).1 x.wb).2, (V.step x.st c).2⟩
def Srv.asks {σ : Type} (V : Srv σ) (come : List ByteArray) (l : List Fate) (wb : List ByteArray) (st : σ) : AS σ := come.foldl V.back ⟨[], l, wb, st⟩
theorem asks_snoc {σ : Type} (V : Srv σ) (come : List ByteArray) (k : Nat) (h : k < come.length) (l : List Fate) (wb : List ByteArray) (st : σ) : V.asks (come.take (k + 1)) l wb st = V.back (V.asks (come.take k) l wb st) come[k] := by
  unfold Srv.asks; rw [List.take_succ_eq_append_getElem h, List.foldl_append]; rfl

/-- a net, and who serves, in memory -/
structure Both {σ : Type} (V : Srv σ) (w : World) (p : NP) (F : Nat → Prop) (sent : Nat) (l : List Fate) (wt wb : List ByteArray) (st : σ) : Prop where
  net : NetAt w V.f p sent l wt wb
  srv : V.I st F w
  apart : ∀ k, p.fp k → ¬ F k
theorem Both.keep {σ : Type} {V : Srv σ} (ok : SrvOk V) {w w' : World} {p : NP} {F S : Nat → Prop} {sent : Nat} {l : List Fate} {wt wb : List ByteArray} {st : σ} (h : Both V w p F sent l wt wb st) (m : Mod S w w') (hs : ∀ k, p.fp k ∨ F k → ¬ S k) : Both V w' p F sent l wt wb st :=
  ⟨h.net.keep m (fun k hk => hs k (.inl hk)), ok.keep _ _ _ _ _ h.srv m (fun k hk => hs k (.inr hk)), h.apart⟩
/-- of what was there only net's and serve's blocks were turned -/
structure Went (O : Nat → Prop) (p p' : NP) (F F' : Nat → Prop) (w w' : World) : Prop where
  bn : p'.bn = p.bn
  mod : Mod (fun k => p.fp k ∨ (F k ∧ O k)) w w'
  fp : ∀ k, p'.fp k → p.fp k ∨ w.heap.size ≤ k
  fs : ∀ k, F' k → F k ∨ w.heap.size ≤ k
theorem Went.refl (O : Nat → Prop) (p : NP) (F : Nat → Prop) (w : World) : Went O p p F F w w := ⟨rfl, Mod.refl _ _, fun _ h => .inl h, fun _ h => .inl h⟩
theorem Went.trans {O : Nat → Prop} {p p' p'' : NP} {F F' F'' : Nat → Prop} {w w' w'' : World} (h : Went O p p' F F' w w') (k : Went O p' p'' F' F'' w' w'') : Went O p p'' F F'' w w'' :=
  ⟨k.bn.trans h.bn, Mod.trans h.mod k.mod (fun i hi hs => by
    rcases hs with hs | hs
    · rcases h.fp i hs with h1 | h1
      · exact .inl h1
      · omega
    · rcases h.fs i hs.1 with h1 | h1
      · exact .inr ⟨h1, hs.2⟩
      · omega), fun i hs => by
    rcases k.fp i hs with h1 | h1
    · exact h.fp i h1
    · exact .inr (Nat.le_trans h.mod.size h1), fun i hs => by
    rcases k.fs i hs with h1 | h1
    · exact h.fs i h1
    · exact .inr (Nat.le_trans h.mod.size h1)⟩

def AskPost {σ : Type} (V : Srv σ) (p : NP) (F : Nat → Prop) (sent : Nat) (wt : List ByteArray) (x : AS σ) (w : World) (e : Ending) (w' : World) : Prop :=
  ∃ v p' F', e = .returned v ∧ w'.ownsRow w.heap.size 9 1 v x.out.length (sv x.out) ∧ Both V w' p' F' (sent + 1) x.l wt x.wb x.st ∧ Went V.own p p' F F' w w' ∧ (∀ k, v.ownBlock = some k → ¬ p'.fp k ∧ ¬ F' k)

theorem NetAt.bump {w : World} {sf : Value} {p : NP} {sent : Nat} {l : List Fate} {wt wb : List ByteArray} (h : NetAt w sf p sent l wt wb) : NetAt (w.setCell ⟨p.bn, 4, none⟩ (.int .i64 ((sent : Int) + 1))) sf p (sent + 1) l wt wb := by
  have hm : Mod (fun k => k = p.bn) w (w.setCell ⟨p.bn, 4, none⟩ (.int .i64 ((sent : Int) + 1))) := (Mod.refl (fun k => k = p.bn) w).set1 rfl _ _
  refine ⟨⟨by have := h.net.1.set 4 (.int .i64 ((sent : Int) + 1)); exact this, h.net.2.keep hm (fun a ha => has_ne h.net.1 (h.net.2.row a ha) (by decide))⟩,
    h.there.keep hm (has_ne2 h.net.1 h.there.box (by decide)) (has_ne2 h.net.1 h.there.var (by decide)) (fun k hk => has_ne h.net.1 (own_row h.there.own hk) (by decide)),
    h.back.keep hm (has_ne2 h.net.1 h.back.box (by decide)) (has_ne2 h.net.1 h.back.var (by decide)) (fun k hk => has_ne h.net.1 (own_row h.back.own hk) (by decide)), h.ne, h.row⟩

set_option maxRecDepth 100000 in
theorem sent_calls {sf : Value} {p : NP} {sent : Nat} {l : List Fate} {wt wb : List ByteArray} (w : World) (h : NetAt w sf p sent l wt wb) : Calls Try.prog 15 #[.pointer (some ⟨p.bn, 0, none⟩)] w fun e w' => e = .returned (.int .i64 (sent : Int)) ∧ w' = w := by
  have h4 := h.net.1.cell (o := 4) rfl
  clear h
  go_enter Try.func15, Try.ntmps15
  go_wp2_with fail
  go_ret
  exact ⟨rfl, rfl⟩
set_option maxRecDepth 100000 in
theorem left_calls {sf : Value} {p : NP} {sent : Nat} {l : List Fate} {wt wb : List ByteArray} (w : World) (h : NetAt w sf p sent l wt wb) : Calls Try.prog 16 #[.pointer (some ⟨p.bn, 0, none⟩)] w fun e w' => e = .returned (.int .i64 (l.length : Int)) ∧ w' = w := by
  have h4 := h.net.1.cell (o := 0) rfl
  clear h
  go_enter Try.func16, Try.ntmps16
  go_wp2_with fail
  go_ret
  exact ⟨rfl, rfl⟩
set_option maxRecDepth 100000 in
theorem ask_none {p : NP} (w : World) : Calls Try.prog 11 #[.pointer (some ⟨p.bn, 0, none⟩), .string ByteArray.empty] w fun e w' => e = .returned (.slice none 0 0) ∧ w' = w := by
  go_enter Try.func11, Try.ntmps11
  go_wp2_with fail
  go_ret
  exact ⟨rfl, rfl⟩
set_option maxRecDepth 100000 in
theorem ask_nil (s : ByteArray) (w : World) : Calls Try.prog 11 #[.pointer none, .string s] w fun e w' => e = .returned (.slice none 0 0) ∧ w' = w := by
  go_enter Try.func11, Try.ntmps11
  go_wp2_with fail
  go_ret
  exact ⟨rfl, rfl⟩

structure Small {σ : Type} (V : Srv σ) (l : List Fate) (wt wb : List ByteArray) (st : σ) : Prop where
  wf : FWf l
  pt : ∀ x ∈ wt, V.Pt x
  pb : ∀ x ∈ wb, V.Pb x
  nt : wt.length ≤ 100000
  nb : wb.length ≤ 100000
  cost : V.cost st ≤ 100000

theorem Both.served {σ : Type} {V : Srv σ} {wr w3 : World} {p1 : NP} {F1 F3 : Nat → Prop} {sent : Nat} {l : List Fate} {wt wb : List ByteArray} {st st' : σ} (hB : Both V wr p1 F1 sent l wt wb st) (hI : V.I st' F3 w3) (hm : Mod F1 wr w3) (hF : ∀ k, F3 k → F1 k ∨ wr.heap.size ≤ k) : Both V w3 p1 F3 sent l wt wb st' :=
  ⟨hB.net.keep hm (fun k hk h => hB.apart k hk h), hI, fun k hk h => by
    rcases hF k h with h1 | h1
    · exact hB.apart k hk h1
    · have := hB.net.lt k hk; omega⟩
theorem Went.served {O : Nat → Prop} {wr w3 : World} {p1 : NP} {F1 F3 : Nat → Prop} (hm : Mod (fun k => F1 k ∧ O k) wr w3) (hF : ∀ k, F3 k → F1 k ∨ wr.heap.size ≤ k) : Went O p1 p1 F1 F3 wr w3 := ⟨rfl, hm.mono fun _ _ h => .inr h, fun _ h => .inl h, hF⟩
theorem Both.came {σ : Type} {V : Srv σ} (ok : SrvOk V) {w3 w4 : World} {p1 p4 : NP} {F3 : Nat → Prop} {sent : Nat} {l l' : List Fate} {wt wb wt' wb' : List ByteArray} {st : σ} (hB : Both V w3 p1 F3 sent l wt wb st) (hN : NetAt w4 V.f p4 sent l' wt' wb') (hm : Mod p1.fp w3 w4) (hF : ∀ k, p4.fp k → p1.fp k ∨ w3.heap.size ≤ k) : Both V w4 p4 F3 sent l' wt' wb' st :=
  ⟨hN, ok.keep _ _ _ _ _ hB.srv hm (fun k hk h => hB.apart k h hk), fun k hk h => by
    rcases hF k hk with h1 | h1
    · exact hB.apart k h1 h
    · have := ok.lt _ _ _ k hB.srv h; omega⟩
theorem Went.came {O : Nat → Prop} {w3 w4 : World} {p1 p4 : NP} {F3 : Nat → Prop} (hb : p4.bn = p1.bn) (hm : Mod p1.fp w3 w4) (hF : ∀ k, p4.fp k → p1.fp k ∨ w3.heap.size ≤ k) : Went O p1 p4 F3 F3 w3 w4 := ⟨hb, hm.mono fun _ _ h => .inl h, hF, fun _ h => .inl h⟩
/-- a row of the call's own, older than what net and serve took newly, stays apart -/
theorem Went.apart {O : Nat → Prop} {p p' : NP} {F F' : Nat → Prop} {w w' : World} (h : Went O p p' F F' w w') {i : Nat} (hi : i < w.heap.size) (ha : ¬ p.fp i ∧ ¬ F i) : ¬ p'.fp i ∧ ¬ F' i := by
  refine ⟨fun h1 => ?_, fun h1 => ?_⟩
  · rcases h.fp i h1 with h2 | h2
    · exact ha.1 h2
    · omega
  · rcases h.fs i h1 with h2 | h2
    · exact ha.2 h2
    · omega

/-- what holds behind so many frames that came there -/
def AskRel {σ : Type} (V : Srv σ) (p : NP) (F : Nat → Prop) (sent : Nat) (come wt wb : List ByteArray) (l : List Fate) (st : σ) (k : Nat) (vo : Value) (w0 wr : World) : Prop :=
  ∃ p1 F1, wr.ownsRow w0.heap.size 9 1 vo (V.asks (come.take k) l wb st).out.length (sv (V.asks (come.take k) l wb st).out) ∧
    Both V wr p1 F1 (sent + 1) (V.asks (come.take k) l wb st).l wt (V.asks (come.take k) l wb st).wb (V.asks (come.take k) l wb st).st ∧ Went V.own p p1 F F1 w0 wr ∧ (∀ i, vo.ownBlock = some i → ¬ p1.fp i ∧ ¬ F1 i)

theorem FWf.tail {l : List Fate} (h : FWf l) : FWf l.tail := fun f hf => h f (List.mem_of_mem_tail hf)
theorem asks_small {σ : Type} {V : Srv σ} (ok : SrvOk V) (come : List ByteArray) (l : List Fate) (wb : List ByteArray) (st : σ) (hl : FWf l) (hb : ∀ x ∈ wb, V.Pb x) (hans : ∀ (s : σ) c, c ∈ come → 0 < (V.step s c).1.size → V.Pb (V.step s c).1) :
    ∀ k, k ≤ come.length → FWf (V.asks (come.take k) l wb st).l ∧ (∀ x ∈ (V.asks (come.take k) l wb st).wb, V.Pb x) ∧ V.cost (V.asks (come.take k) l wb st).st ≤ V.cost st + k ∧
      (V.asks (come.take k) l wb st).out.length + (V.asks (come.take k) l wb st).wb.length ≤ wb.length + 2 * k
  | 0, _ => ⟨hl, hb, Nat.le_refl _, by simp [Srv.asks]⟩
  | k + 1, hk => by
    obtain ⟨h1, h2, h3, h4⟩ := asks_small ok come l wb st hl hb hans k (by omega)
    rw [asks_snoc V come k (by omega)]
    have hc := ok.cost (V.asks (come.take k) l wb st).st come[k]
    unfold Srv.back
    split
    · exact ⟨h1, h2, by show V.cost (V.step _ _).2 ≤ _; omega, Nat.le_trans h4 (by omega)⟩
    · rename_i hne
      have ha := hans (V.asks (come.take k) l wb st).st come[k] (List.getElem_mem _) (by omega)
      have hg := goes_all (hd (V.asks (come.take k) l wb st).l) _ _ ha h2 (fun x a b => ok.pbt x a b)
      have hgl := goes_len (hd (V.asks (come.take k) l wb st).l) (V.step (V.asks (come.take k) l wb st).st come[k]).1 (V.asks (come.take k) l wb st).wb
      exact ⟨h1.tail, hg.2, by show V.cost (V.step _ _).2 ≤ _; omega, by simp only [List.length_append]; omega⟩

set_option maxRecDepth 100000 in
set_option maxHeartbeats 4000000 in
theorem ask_calls {σ : Type} {V : Srv σ} (ok : SrvOk V) (hans : ∀ (st : σ) c, V.Pt c → 0 < (V.step st c).1.size → V.Pb (V.step st c).1) (p : NP) (F : Nat → Prop) (sent : Nat) (l : List Fate) (wt wb : List ByteArray) (st : σ) (s : ByteArray) (w : World)
    (hB : Both V w p F sent l wt wb st) (hS : Small V l wt wb st) (hs : V.Pt s) (hsent : sent ≤ 1000000) :
    Calls Try.prog 11 #[.pointer (some ⟨p.bn, 0, none⟩), .string s] w (AskPost V p F sent (goes (hd l) s wt).2 (V.asks (goes (hd l) s wt).1 l.tail wb st) w) := by
  have hs0 := ok.pt s hs
  have hne := str_full s hs0.2
  have h4 := hB.net.net.1.cell (o := 4) rfl
  have f4 := hB.net.net.1.frozen 4
  have hbump := hB.net.bump
  have hmS : Mod (fun k => k = p.bn) w (w.setCell ⟨p.bn, 4, none⟩ (.int .i64 ((sent : Int) + 1))) := (Mod.refl (fun k => k = p.bn) w).set1 rfl _ _
  have hB1 : Both V (w.setCell ⟨p.bn, 4, none⟩ (.int .i64 ((sent : Int) + 1))) p F (sent + 1) l wt wb st :=
    ⟨hbump, ok.keep _ _ _ _ _ hB.srv hmS (fun k hk h => hB.apart k (.inl h) hk), hB.apart⟩
  have h2 := hB1.net.net.1.cell (o := 2) rfl
  have HT := Lib.hid (there_calls V.f p (sent + 1) l wt wb s _ hB1.net hS.wf hs0.1 hs0.2 (by have := hS.nt; omega))
  have HB1 := Lib.hid hB1
  have HM1 := Lib.hid (hmS.mono (S' := fun k => p.fp k ∨ (F k ∧ V.own k)) fun _ _ h => .inl (.inl h))
  unfold wayV at h2
  clear hB hbump hmS hB1
  go_enter Try.func11, Try.ntmps11
  go_wp2_with fail
  refine HT.out.mono ?_
  rintro e w2 ⟨r, p2, rfl, hr, hN2, hbn2, hm2, hfp2, hrf⟩
  have hpl := HB1.out.net.lt
  have hfl := fun k hk => ok.lt _ _ _ k HB1.out.srv hk
  have hB2 : Both V w2 p2 F (sent + 1) l.tail (goes (hd l) s wt).2 wb st :=
    ⟨hN2, ok.keep _ _ _ _ _ HB1.out.srv hm2 (fun k hk h => HB1.out.apart k h hk), fun k hk h => by
      rcases hfp2 k hk with h1 | h1
      · exact HB1.out.apart k h1 h
      · have := hfl k h; omega⟩
  have hW2 : Went V.own p p2 F F w w2 := ⟨hbn2, Mod.trans HM1.out hm2 (fun i _ h => .inl h), fun k hk => (hfp2 k hk).imp id (fun h => Nat.le_trans HM1.out.size h), fun k hk => .inl hk⟩
  have hgl := goes_len (hd l) s wt
  have hga := goes_all (P := V.Pt) (hd l) s wt hs hS.pt ok.ptt
  generalize (goes (hd l) s wt).1 = come at *
  generalize (goes (hd l) s wt).2 = wt2 at *
  obtain ⟨Ar, cr, rfl, hrc, hcells, hra, hrm⟩ := own_cells hr
  have hcn : come.length ≤ 100002 := by have := hS.nt; omega
  have hsm := asks_small ok come l.tail wb st hS.wf.tail hS.pb (fun st c hc h => hans st c (hga.1 c hc) h)
  have hrb : ∀ a, Ar = some a → ¬ p2.fp a.block ∧ ¬ F a.block ∧ w.heap.size ≤ a.block ∧ a.block < w2.heap.size := fun a ha => by
    subst ha
    have h1 := hr.lt a.block rfl
    refine ⟨hrf _ rfl, fun h => ?_, ?_, h1.2⟩
    · have := hfl _ h; omega
    · have := HM1.out.size; omega
  have hnb := hS.nb
  have hcs := hS.cost
  have HCL := Lib.hid hcells
  have HRB := Lib.hid hrb
  have HGA := Lib.hid hga.1
  have HSM := Lib.hid hsm
  have HB2 := Lib.hid hB2
  have HW2 := Lib.hid hW2
  have hz2 := hW2.mod.size
  clear hgl hga hsm hrb hcells hr hrf hB2 hW2 hm2 hfp2 hN2 hpl hfl HB1 HM1 HT hbn2 h2 h4 f4 hne hS
  go_wp2_with fail
  go_loopw [5, 29] (fun vo i wr => ∃ k : Nat, i = .int .i64 k ∧ k ≤ come.length ∧ Hid (AskRel V p2 F sent come wt2 wb l.tail st k vo w2 wr) ∧ Hid (Cells wr Ar (sv come))) (fun _ i _ => come.length - (intOf i).toNat)
  case atStart => exact ⟨0, by go_num, by omega, Lib.hid ⟨p2, F, World.ownsRow_nil _ _ _ _, HB2.out, Went.refl _ _ _ _, fun i h => by cases h⟩, HCL⟩
  case round =>
    obtain ⟨k, rfl, hk, HR, HC⟩ := hrel
    by_cases hlt : k < come.length
    · have i1 : (k : Int) < (come.length : Int) := by omega
      have hsn := asks_snoc V come k hlt l.tail wb st
      have hsm := HSM.out k hk
      obtain ⟨p1, F1, hown, hB, hW, hd⟩ := HR.out
      have hrb := HRB.out
      have hpc := HGA.out come[k] (List.getElem_mem hlt)
      have hcl := HC.out
      rcases hcl with hcl | ⟨gr, og, rfl, hcell⟩
      · have hc0 : come = [] := by simpa [sv] using hcl
        rw [hc0] at hlt; simp at hlt
      have ck := hcell k _ (sv_get come k hlt)
      have hrb := hrb _ rfl
      have hrb1 := hW.apart hrb.2.2.2 ⟨hrb.1, hrb.2.1⟩
      generalize V.asks (come.take k) l.tail wb st = x at *
      generalize come[k] = c at *
      have n1 := hB.net.net.1.cell (o := 1) rfl
      have n3 := hB.net.net.1.cell (o := 3) rfl
      have hbn : p1.bn = p.bn := hW.bn.trans HW2.out.bn
      rw [hbn] at n1 n3
      unfold Srv.f at n1
      unfold wayV at n3
      have HCA := Lib.hid (ok.call x.st F1 wr c hB.srv hpc (by omega))
      have HB := Lib.hid hB
      have HW := Lib.hid hW
      have HD := Lib.hid hd
      have HO := Lib.hid hown
      have HSN := Lib.hid hsn
      have HSS := Lib.hid hsm
      have HRR := Lib.hid hrb1
      have hrlt := hrb.2.2.2
      have HPA := Lib.hid (hans x.st c hpc)
      have HBN := Lib.hid hbn
      clear hB hW hd hown hsn hsm hrb1 hrb hcell HR hbn
      have he := ok.enter wr c
      go_wp2_with fail
      refine HCA.out.mono ?_
      rintro e w3 ⟨F3, rfl, hI3, hm3, hF3⟩
      clear he
      have hm3' := hm3.mono (S' := F1) (fun _ _ h => h.1)
      have hB3 := HB.out.served hI3 hm3' hF3
      have hW3 := HW.out.trans (Went.served hm3 hF3)
      have hD3 := fun i (h : u5.ownBlock = some i) => Went.apart (Went.served (p1 := p1) hm3 hF3) (HO.out.lt i h).2 (HD.out i h)
      have hO3 := own_keep HO.out hm3' (fun i _ h => (HD.out i h).2)
      have hC3 := HC.out.keep hm3' (fun a ha h => by obtain rfl := Option.some.inj ha; exact HRR.out.2 h)
      have hR3 := Went.apart (Went.served (p1 := p1) hm3 hF3) (Nat.lt_of_lt_of_le hrlt HW.out.mod.size) HRR.out
      have hz3 := hW3.mod.size
      have HSN := HSN
      unfold Srv.back at HSN
      generalize V.step x.st c = q at *
      obtain ⟨an, st3⟩ := q
      dsimp only at *
      by_cases h0 : an.size = 0
      · rw [if_pos h0] at HSN
        obtain rfl := str_none an h0
        have HR3 : Hid (AskRel V p2 F sent come wt2 wb l.tail st (k + 1) u5 w2 w3) := Lib.hid ⟨p1, F3, by rw [HSN.out]; exact hO3, by rw [HSN.out]; exact hB3, hW3, hD3⟩
        have HC3 := Lib.hid hC3
        clear hB3 hW3 hD3 hO3 hC3 hR3 hI3 hm3 hm3' hF3 n1 n3
        go_wp2_with fail
        go_roundw
        case rel => exact ⟨k + 1, by go_num, by omega, HR3, HC3⟩
        case measure => simp [intOf]; omega
      · rw [if_neg h0] at HSN
        have hful := str_full an (by omega)
        have n33 := hB3.net.net.1.cell (o := 3) rfl
        rw [HBN.out] at n33
        unfold wayV at n33
        have hpb := HPA.out (by omega)
        have hpb2 := ok.pb an hpb
        have HK := Lib.hid (back_calls V.f p1 (sent + 1) x.l wt2 x.wb an w3 hB3.net HSS.out.1 hpb2.1 hpb2.2 (by have := HSS.out.2.2.2; omega))
        have HB3 := Lib.hid hB3
        have HW3 := Lib.hid hW3
        have HD3 := Lib.hid hD3
        have HO3 := Lib.hid hO3
        have HC3 := Lib.hid hC3
        have HR3 := Lib.hid hR3
        clear hB3 hW3 hD3 hO3 hC3 hR3 hI3 hm3 hm3' hF3 n1 n3
        go_wp2_with fail
        refine HK.out.mono ?_
        rintro e w4 ⟨r4, p4, rfl, hr4, hN4, hbn4, hm4, hfp4, hrf4⟩
        have hB4 := HB3.out.came ok hN4 hm4 hfp4
        have hW4' : Went V.own p1 p4 F3 F3 w3 w4 := Went.came hbn4 hm4 hfp4
        have hW4 := HW3.out.trans hW4'
        have hD4 := fun i (h : u5.ownBlock = some i) => hW4'.apart (HO3.out.lt i h).2 (HD3.out i h)
        have hO4 := own_keep HO3.out hm4 (fun i _ h => (HD3.out i h).1)
        have hR4 := hW4'.apart (Nat.lt_of_lt_of_le hrlt hz3) HR3.out
        have hC4 := HC3.out.keep hm4 (fun a ha h => by obtain rfl := Option.some.inj ha; exact HR3.out.1 h)
        have hz4 := hW4.mod.size
        have hgl := goes_len (hd x.l) an x.wb
        have hSS := HSS.out.2.2.2
        obtain ⟨A4, c4, rfl, hc4, hcl4, _, _⟩ := own_cells hr4
        have hr5 := fun i (h : (Value.slice A4 (goes (hd x.l) an x.wb).1.length c4).ownBlock = some i) => (hr4.lt i h).1
        generalize hgo : (goes (hd x.l) an x.wb).1 = o4 at *
        generalize hgw : (goes (hd x.l) an x.wb).2 = wb4 at *
        have hxo : x.out.length + o4.length ≤ 10000000 := by omega
        have HC4 := Lib.hid hC4
        have HCL4 := Lib.hid hcl4
        have HB4 := Lib.hid hB4
        have HW4 := Lib.hid hW4
        have HD4 := Lib.hid hD4
        have HO4 := Lib.hid hO4
        have HR4 := Lib.hid hR4
        clear hB4 hW4 hW4' hD4 hO4 hC4 hcl4 hN4 hm4 hfp4 hrf4 hr4 hr5 hgo hgw hR4 hgl n33
        go_wp2_with (first
          | (at_builtin
             go_must (refine appG _ _ T_str w2.heap.size u5 x.out.length (sv x.out) HO4.out A4 o4.length c4 (sv o4) rfl rfl rfl rfl (by rw [sv_len]; omega) HCL4.out (sv_one _) (by omega) (by unfold maxLen; omega) hz4 ?_; intro v5 w5 hown5 hm5 hrow5)
             have hB5 := HB4.out.keep ok hm5 (fun i hi h => by rcases hi with hi | hi; exact (HD4.out i h).1 hi; exact (HD4.out i h).2 hi)
             have hW5 : Went V.own p2 p4 F F3 w2 w5 := ⟨HW4.out.bn, Mod.trans HW4.out.mod hm5 (fun i hi h => by have := (HO4.out.lt i h).1; omega), HW4.out.fp, HW4.out.fs⟩
             have hD5 : ∀ i, v5.ownBlock = some i → ¬ p4.fp i ∧ ¬ F3 i := fun i h => by
               rcases hrow5 i h with h1 | h1
               · exact HD4.out i h1
               · exact ⟨fun h2 => by have := HB4.out.net.lt i h2; omega, fun h2 => by have := ok.lt _ _ _ i HB4.out.srv h2; omega⟩
             have HC5 := Lib.hid (HC4.out.keep hm5 (fun a ha h => by
               obtain rfl := Option.some.inj ha
               have := (HO4.out.lt _ h).1
               dsimp only at this; omega))
             rw [← sv_app, ← List.length_append] at hown5
             have HR5 : Hid (AskRel V p2 F sent come wt2 wb l.tail st (k + 1) v5 w2 w5) := Lib.hid ⟨p4, F3, by rw [HSN.out]; exact hown5, by rw [HSN.out]; exact hB5, hW5, hD5⟩
             clear hown5 hm5 hrow5 hB5 hW5 hD5))
        go_roundw
        case rel => exact ⟨k + 1, by go_num, by omega, HR5, HC5⟩
        case measure => simp [intOf]; omega
    · have hkl : k = come.length := by omega
      have i1 : ¬ (k : Int) < (come.length : Int) := by omega
      obtain ⟨p1, F1, hown, hB, hW, hd⟩ := HR.out
      rw [hkl, List.take_length] at hown hB
      have HO := Lib.hid hown
      have HB := Lib.hid hB
      have HW := Lib.hid hW
      have HD := Lib.hid hd
      clear hown hB hW hd HR
      go_wp2_with fail
      go_ret
      exact ⟨u5, p1, F1, rfl, own_base HO.out hz2, HB.out, HW2.out.trans HW.out, HD.out⟩
end Net
end Go.Proofs.Ytocpifoimoaibaa
