/- Joined texts: BlobE. -/
import Derived.Test.YthgcjfpaekpeeaaDoorJ24
import Derived.Test.YthgcjfpaekpeeaaDoorJ18
/- Plain words for Build: how bytes are cut, levels up to one part. -/
namespace Go.Proofs.YthgcjfpaekpeeaaDoor
set_option linter.unusedVariables false
set_option linter.unusedSimpArgs false
open Go.RowKit K Wire Go.Maps
namespace Blob
open Go.Proofs.YthgcjfpaekpeeaaDoor.Obj

/-- places that cut what lies between two -/
def Good (m : Int) : Int → Int → List Int → Prop
  | a, e, [] => a = e
  | a, e, c :: cs => a + m ≤ c ∧ c ≤ a + 1024 ∧ c ≤ e ∧ Good m c e cs
theorem Good.weak : ∀ {cs : List Int} {a e : Int}, Good 1 a e cs → Good 0 a e cs
  | [], _, _, h => h
  | c :: cs, a, e, ⟨h1, h2, h3, h4⟩ => ⟨by omega, h2, h3, Good.weak h4⟩
theorem cuts_good : ∀ (l : List UInt8) (i s n : Int), 0 ≤ n → n < 1024 → Good 1 (i - n) (i + l.length) (Gear.cuts l i s n)
  | [], i, s, n, h0, h1 => by
    simp only [Gear.cuts]
    split
    · simp only [Good, List.length_nil]; omega
    · simp only [Good, List.length_nil]; omega
  | c :: l, i, s, n, h0, h1 => by
    have hn := Gear.stp_n s n c.toNat h0 h1
    have hs : (Gear.stp s n c.toNat).1 = true ∧ (Gear.stp s n c.toNat).2.2 = 0 ∨ (Gear.stp s n c.toNat).1 = false ∧ (Gear.stp s n c.toNat).2.2 = n + 1 := by
      unfold Gear.stp
      split
      · exact .inr ⟨rfl, rfl⟩
      · split
        · exact .inr ⟨rfl, rfl⟩
        · exact .inl ⟨rfl, rfl⟩
    have ih := cuts_good l (i + 1) (Gear.stp s n c.toNat).2.1 (Gear.stp s n c.toNat).2.2 hn.1 hn.2
    simp only [Gear.cuts, List.length_cons]
    have e1 : ((l.length + 1 : Nat) : Int) = (l.length : Int) + 1 := by omega
    rw [e1]
    rcases hs with ⟨h2, h3⟩ | ⟨h2, h3⟩
    · rw [if_pos h2]
      rw [h3] at ih ⊢
      simp only [Int.sub_zero] at ih
      simp only [Good]
      refine ⟨by omega, by omega, by omega, ?_⟩
      rw [show i + ((l.length : Int) + 1) = i + 1 + l.length by omega]
      exact ih
    · rw [if_neg (by rw [h2]; decide)]
      rw [h3] at ih ⊢
      rw [show i + ((l.length : Int) + 1) = i + 1 + l.length by omega, show i - n = i + 1 - (n + 1) by omega]
      exact ih
/-- the places at which a file is cut -/
def cutsL (l : List UInt8) : List Int := if (Gear.cuts l 0 0 0).isEmpty then [0] else Gear.cuts l 0 0 0
theorem cutsL_good (l : List UInt8) : Good 0 0 l.length (cutsL l) ∧ cutsL l ≠ [] ∧ (1 < (cutsL l).length → Good 1 0 l.length (cutsL l)) := by
  have h := cuts_good l 0 0 0 (by omega) (by omega)
  simp only [Int.sub_zero, Int.zero_add] at h
  unfold cutsL
  cases hc : Gear.cuts l 0 0 0 with
  | nil =>
    rw [hc] at h
    simp only [Good] at h
    simp only [List.isEmpty_nil, if_true]
    refine ⟨⟨by omega, by omega, by omega, h⟩, by simp, by simp⟩
  | cons c cs => rw [hc] at h; exact ⟨h.weak, by simp, fun _ => h⟩
/-- the pieces -/
def pieces (data : List UInt8) : Int → List Int → List (List UInt8)
  | _, [] => []
  | a, c :: cs => some_ data a c :: pieces data c cs
theorem pieces_len (data : List UInt8) : ∀ (cs : List Int) (a : Int), (pieces data a cs).length = cs.length
  | [], _ => rfl
  | c :: cs, a => by simp [pieces, pieces_len data cs c]
theorem some_len {l : List UInt8} {a c : Int} (h0 : 0 ≤ a) (h1 : a ≤ c) (h2 : c ≤ l.length) : ((some_ l a c).length : Int) = c - a := by
  unfold some_
  rw [List.length_take, List.length_drop]; omega
def chunkOb (s : List UInt8) : Ob := ⟨shaS (chunkB s), ⟨(chunkB s).toArray⟩⟩
def chunkPart (s : List UInt8) : Part := ⟨(chunkOb s).id, s.length⟩
theorem run_some (s : ByteArray) (a c : Int) (h0 : 0 ≤ a) (h1 : a ≤ c) (h2 : c ≤ s.size) (w' : World) :
    (Instr.slice 9 (.string s) (some (.int .i64 a)) (some (.int .i64 c)) none).run Tryd.prog w' = .ok (.string ⟨(some_ s.data.toList a c).toArray⟩) w' := by
  rw [run_slice_string w' 9 s .i64 .i64 a c Tryd.underlying9 (by omega) (by omega) h2]
  congr 2
  apply ByteArray.ext
  apply Array.toList_inj.1
  simp [ByteArray.data_extract, Array.toList_extract, List.extract, some_]
/-- a file's root, and its objects -/
def buildL (data : List UInt8) : Part × List Ob :=
  let P := pieces data 0 (cutsL data)
  let r := levelsL 20 1 (P.map chunkPart)
  (r.1.headD ⟨⟨#[]⟩, 0⟩, keptL (P.map chunkOb ++ r.2))
theorem Good.bound : ∀ {cs : List Int} {a e m : Int}, Good m a e cs → 0 ≤ m → a ≤ e
  | [], a, e, m, h, _ => by simp only [Good] at h; omega
  | c :: cs, a, e, m, ⟨h1, _, _, h4⟩, hm => by have := Good.bound h4 hm; omega
theorem pieces_sizes (data : List UInt8) (m : Int) (hm : 0 ≤ m) : ∀ (cs : List Int) (a : Int), 0 ≤ a → Good m a data.length cs → sizes ((pieces data a cs).map chunkPart) = data.length - a ∧ ∀ p ∈ (pieces data a cs).map chunkPart, m ≤ p.size ∧ p.id.size = 32
  | [], a, h0, h => by
    simp only [Good] at h
    simp [pieces, sizes]; omega
  | c :: cs, a, h0, ⟨h1, h2, h3, h4⟩ => by
    have ih := pieces_sizes data m hm cs c (by omega) h4
    have hl := some_len (l := data) h0 (by omega) h3
    refine ⟨?_, fun p hp => ?_⟩
    · have e : sizes ((pieces data a (c :: cs)).map chunkPart) = ((some_ data a c).length : Int) + sizes ((pieces data c cs).map chunkPart) := by simp [pieces, sizes, chunkPart]
      rw [e, ih.1, hl]; omega
    · rcases List.mem_cons.1 hp with rfl | hp
      · exact ⟨by show m ≤ ((some_ data a c).length : Int); omega, sha_size _⟩
      · exact ih.2 p hp
theorem first_ok {data : List UInt8} (hd : data.length ≤ 262144) (h : 1 < (cutsL data).length) : PartsOk ((pieces data 0 (cutsL data)).map chunkPart) := by
  obtain ⟨_, _, h3⟩ := cutsL_good data
  have := pieces_sizes data 1 (by omega) (cutsL data) 0 (by omega) (h3 h)
  exact ⟨this.2, by rw [this.1]; omega⟩
theorem sizes_flat : ∀ (L : List (List Part)), (∀ g ∈ L, ∀ p ∈ g, 1 ≤ p.size) → (L.map sizes).sum = sizes L.flatten ∧ ∀ g ∈ L, sizes g ≤ sizes L.flatten
  | [], _ => by simp [sizes]
  | g :: L, h => by
    have ih := sizes_flat L (fun g' hg' => h g' (List.mem_cons_of_mem _ hg'))
    have e : sizes (g :: L).flatten = sizes g + sizes L.flatten := by rw [List.flatten_cons, sizes_append]
    have h1 : 0 ≤ sizes g := by have := sum_take_le g (h g (List.mem_cons_self ..)); unfold sizes; omega
    have h2 : 0 ≤ sizes L.flatten := by
      have := sum_take_le L.flatten (fun p hp => by
        obtain ⟨g', hg', hp'⟩ := List.mem_flatten.1 hp
        exact h g' (List.mem_cons_of_mem _ hg') p hp')
      unfold sizes; omega
    refine ⟨by rw [List.map_cons, List.sum_cons, ih.1, e], fun g' hg' => ?_⟩
    rcases List.mem_cons.1 hg' with rfl | hg'
    · omega
    · have := ih.2 g' hg'; omega
theorem next_ok {level : Int} (hlv : 1 ≤ level ∧ level ≤ 20) {l : List Part} (h : PartsOk l) : PartsOk ((gr [] l).map (fanPart level)) := by
  have hf := gr_flat l []
  rw [List.nil_append] at hf
  have hin : ∀ g ∈ gr [] l, ∀ p ∈ g, 1 ≤ p.size ∧ p.id.size = 32 := fun g hg p hp => h.one p (by rw [← hf]; exact List.mem_flatten.2 ⟨g, hg, hp⟩)
  have hs := sizes_flat (gr [] l) (fun g hg p hp => (hin g hg p hp).1)
  rw [hf] at hs
  have hsm := gr_small l [] (by simp)
  have hsum := h.sum
  refine ⟨fun p hp => ?_, ?_⟩
  · obtain ⟨g, hg, rfl⟩ := List.mem_map.1 hp
    have h1 := sizes_nonneg (hin g hg)
    have h2 := hs.2 g hg
    have h3 := hsm g hg
    refine ⟨by show 1 ≤ sizes g; omega, ?_⟩
    show (fanOb level g).id.size = 32
    rw [fanOb_of (fan_right hlv (hin g hg) (by omega) h3)]
    exact sha_size _
  · have e : sizes ((gr [] l).map (fanPart level)) = ((gr [] l).map sizes).sum := by simp [sizes, fanPart, Function.comp_def]; rfl
    rw [e, hs.1]; exact hsum
end Blob
end Go.Proofs.YthgcjfpaekpeeaaDoor
