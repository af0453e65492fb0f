/- Joined texts: HashA, HashB, HashN. -/
import Derived.Test.YtpoljpjcmigobaaDoorJ1
import Derived.Laws.BitsAllLaws
import Derived.Laws.Bits64b
import Derived.Laws.MakeOwn
/- The walks of bits.RotateLeft32 and of the reference's rotr. -/
namespace Go.Proofs.YtpoljpjcmigobaaDoor
set_option linter.unusedVariables false
set_option linter.unusedSimpArgs false
open Go.RowKit K
namespace Hash

/-- turned to the right -/
def rot (x k : Nat) : Nat := (x / 2 ^ k) ||| (x * 2 ^ (32 - k) % 4294967296)

theorem rot_lt (x k : Nat) (h : x < 4294967296) : rot x k < 4294967296 :=
  Nat.or_lt_two_pow (n := 32) (Nat.lt_of_le_of_lt (Nat.div_le_self _ _) h) (Nat.mod_lt _ (by decide))

set_option maxRecDepth 100000 in
set_option maxHeartbeats 1000000 in
theorem rotl_calls (x k : Nat) (w : World) (hx : x < 4294967296) (hk : bits .and .u64 (IntKind.u64.wrap (-(k : Int))) 31 = ((32 - k : Nat) : Int)) (h0 : 0 < k) (h1 : k < 32) :
    Calls Tryd.prog 117 #[.int .u32 x, .int .i64 (-(k : Int))] w fun e w' => e = .returned (.int .u32 (rot x k : Nat)) ∧ w' = w := by
  have e1 : ((x : Int) * 2 ^ (32 - k) % 4294967296) = ((x * 2 ^ (32 - k) % 4294967296 : Nat) : Int) := by simp
  have e2 : ((x : Int) / 2 ^ (32 - (32 - k))) = ((x / 2 ^ k : Nat) : Int) := by rw [show 32 - (32 - k) = k by omega]; simp
  have e3 : bits .or .u32 ((x : Int) * 2 ^ (32 - k) % 4294967296) ((x : Int) / 2 ^ (32 - (32 - k))) = ((rot x k : Nat) : Int) := by
    rw [e1, e2, u32_or_nat _ _ (Nat.mod_lt _ (by decide)) (Nat.lt_of_le_of_lt (Nat.div_le_self _ _) hx), Nat.or_comm]; rfl
  have HE := Lib.hid e3
  clear e1 e2 e3
  go_enter Tryd.func117, Tryd.ntmps117
  go_wp2_with fail
  go_ret
  exact ⟨congrArg (fun z => Ending.returned (.int .u32 z)) HE.out, rfl⟩

set_option maxRecDepth 100000 in
set_option maxHeartbeats 1000000 in
theorem rotr_calls (x k : Nat) (w : World) (hx : x < 4294967296) (h0 : 0 < k) (h1 : k < 32) :
    Calls Tryd.prog 105 #[.int .u32 x, .int .u32 k] w fun e w' => e = .returned (.int .u32 (rot x k : Nat)) ∧ w' = w := by
  have e1 : ((x : Int) * 2 ^ (32 - k) % 4294967296) = ((x * 2 ^ (32 - k) % 4294967296 : Nat) : Int) := by simp
  have e2 : ((x : Int) / 2 ^ k) = ((x / 2 ^ k : Nat) : Int) := by simp
  have e3 : bits .or .u32 ((x : Int) / 2 ^ k) ((x : Int) * 2 ^ (32 - k) % 4294967296) = ((rot x k : Nat) : Int) := by
    rw [e1, e2, u32_or_nat _ _ (Nat.lt_of_le_of_lt (Nat.div_le_self _ _) hx) (Nat.mod_lt _ (by decide))]; rfl
  have HE := Lib.hid e3
  clear e1 e2 e3
  go_enter Tryd.func105, Tryd.ntmps105
  go_wp2_with fail
  go_ret
  exact ⟨congrArg (fun z => Ending.returned (.int .u32 z)) HE.out, rfl⟩
end Hash
end Go.Proofs.YtpoljpjcmigobaaDoor
/- The plain functions of SHA-256. -/
namespace Go.Proofs.YtpoljpjcmigobaaDoor
set_option linter.unusedVariables false
set_option linter.unusedSimpArgs false
open Go.RowKit K
namespace Hash

abbrev M32 : Nat := 4294967296

def sig0 (x : Nat) : Nat := rot x 7 ^^^ rot x 18 ^^^ (x / 8)
def sig1 (x : Nat) : Nat := rot x 17 ^^^ rot x 19 ^^^ (x / 1024)
def Sig1 (e : Nat) : Nat := rot e 6 ^^^ rot e 11 ^^^ rot e 25
def Sig0 (a : Nat) : Nat := rot a 2 ^^^ rot a 13 ^^^ rot a 22
def ch (e f g : Nat) : Nat := (e &&& f) ^^^ ((4294967295 ^^^ e) &&& g)
def maj (a b c : Nat) : Nat := (a &&& b) ^^^ (a &&& c) ^^^ (b &&& c)

/-- four bytes, the highest first -/
def ld (l : List UInt8) (t : Nat) : Nat := (l.getD (4 * t) 0).toNat * 16777216 + (l.getD (4 * t + 1) 0).toNat * 65536 + (l.getD (4 * t + 2) 0).toNat * 256 + (l.getD (4 * t + 3) 0).toNat

def wstep (W : List Nat) (t : Nat) : Nat := ((W.getD (t - 16) 0 + sig0 (W.getD (t - 15) 0)) % M32 + W.getD (t - 7) 0 + sig1 (W.getD (t - 2) 0)) % M32
/-- the sixty-four numbers of a block, t of them made -/
def Wd (l : List UInt8) : Nat → List Nat
  | 0 => List.replicate 64 0
  | t + 1 => (Wd l t).set t (if t < 16 then ld l t else wstep (Wd l t) t)

structure V8 where
  (a b c d e f g h : Nat)
def V8.list (v : V8) : List Nat := [v.a, v.b, v.c, v.d, v.e, v.f, v.g, v.h]
def V8.Ok (v : V8) : Prop := v.a < M32 ∧ v.b < M32 ∧ v.c < M32 ∧ v.d < M32 ∧ v.e < M32 ∧ v.f < M32 ∧ v.g < M32 ∧ v.h < M32

def T1 (v : V8) (k w : Nat) : Nat := ((((v.h + Sig1 v.e) % M32 + ch v.e v.f v.g) % M32 + k) % M32 + w) % M32
def T2 (v : V8) : Nat := (Sig0 v.a + maj v.a v.b v.c) % M32
def round (v : V8) (k w : Nat) : V8 := ⟨(T1 v k w + T2 v) % M32, v.a, v.b, v.c, (v.d + T1 v k w) % M32, v.e, v.f, v.g⟩
def keysL : List Nat := [1116352408,1899447441,3049323471,3921009573,961987163,1508970993,2453635748,2870763221,3624381080,310598401,607225278,1426881987,1925078388,2162078206,2614888103,3248222580,3835390401,4022224774,264347078,604807628,770255983,1249150122,1555081692,1996064986,2554220882,2821834349,2952996808,3210313671,3336571891,3584528711,113926993,338241895,666307205,773529912,1294757372,1396182291,1695183700,1986661051,2177026350,2456956037,2730485921,2820302411,3259730800,3345764771,3516065817,3600352804,4094571909,275423344,430227734,506948616,659060556,883997877,958139571,1322822218,1537002063,1747873779,1955562222,2024104815,2227730452,2361852424,2428436474,2756734187,3204031479,3329325298]
def Rd (W : List Nat) (v : V8) : Nat → V8
  | 0 => v
  | t + 1 => round (Rd W v t) (keysL.getD t 0) (W.getD t 0)
def addV (x y : V8) : V8 := ⟨(x.a + y.a) % M32, (x.b + y.b) % M32, (x.c + y.c) % M32, (x.d + y.d) % M32, (x.e + y.e) % M32, (x.f + y.f) % M32, (x.g + y.g) % M32, (x.h + y.h) % M32⟩
/-- a block is mixed in -/
def mixV (v : V8) (l : List UInt8) : V8 := addV v (Rd (Wd l 64) v 64)
def iv : V8 := ⟨1779033703, 3144134277, 1013904242, 2773480762, 1359893119, 2600822924, 528734635, 1541459225⟩
def blocks (l : List UInt8) (v : V8) : Nat → V8
  | 0 => v
  | n + 1 => mixV (blocks l v n) ((l.drop (64 * n)).take 64)
/-- a number's bytes, the highest first -/
def be (size n : Nat) : List UInt8 := (List.range size).map fun i => UInt8.ofNat (n / 2 ^ (8 * (size - 1 - i)))
def pad (l : List UInt8) : List UInt8 := l ++ (128 :: List.replicate ((119 - l.length % 64) % 64) 0 ++ be 8 (8 * l.length))
def sha (l : List UInt8) : List UInt8 := (blocks (pad l) iv ((pad l).length / 64)).list.flatMap (be 4)

theorem sig0_lt (x : Nat) (h : x < M32) : sig0 x < M32 :=
  Nat.xor_lt_two_pow (n := 32) (Nat.xor_lt_two_pow (n := 32) (rot_lt _ _ h) (rot_lt _ _ h)) (Nat.lt_of_le_of_lt (Nat.div_le_self _ _) h)
theorem sig1_lt (x : Nat) (h : x < M32) : sig1 x < M32 :=
  Nat.xor_lt_two_pow (n := 32) (Nat.xor_lt_two_pow (n := 32) (rot_lt _ _ h) (rot_lt _ _ h)) (Nat.lt_of_le_of_lt (Nat.div_le_self _ _) h)
theorem Sig0_lt (x : Nat) (h : x < M32) : Sig0 x < M32 :=
  Nat.xor_lt_two_pow (n := 32) (Nat.xor_lt_two_pow (n := 32) (rot_lt _ _ h) (rot_lt _ _ h)) (rot_lt _ _ h)
theorem Sig1_lt (x : Nat) (h : x < M32) : Sig1 x < M32 :=
  Nat.xor_lt_two_pow (n := 32) (Nat.xor_lt_two_pow (n := 32) (rot_lt _ _ h) (rot_lt _ _ h)) (rot_lt _ _ h)
theorem ch_lt (e f g : Nat) (he : e < M32) (_hf : f < M32) (hg : g < M32) : ch e f g < M32 :=
  Nat.xor_lt_two_pow (n := 32) (Nat.lt_of_le_of_lt Nat.and_le_left he) (Nat.lt_of_le_of_lt Nat.and_le_right hg)
theorem maj_lt (a b c : Nat) (ha : a < M32) (hb : b < M32) (_hc : c < M32) : maj a b c < M32 :=
  Nat.xor_lt_two_pow (n := 32) (Nat.xor_lt_two_pow (n := 32) (Nat.lt_of_le_of_lt Nat.and_le_left ha) (Nat.lt_of_le_of_lt Nat.and_le_left ha)) (Nat.lt_of_le_of_lt Nat.and_le_left hb)
theorem T1_lt (v : V8) (k w : Nat) : T1 v k w < M32 := Nat.mod_lt _ (by decide)
theorem T2_lt (v : V8) : T2 v < M32 := Nat.mod_lt _ (by decide)
theorem wstep_lt (W : List Nat) (t : Nat) : wstep W t < M32 := Nat.mod_lt _ (by decide)
theorem round_ok (v : V8) (k w : Nat) (h : v.Ok) : (round v k w).Ok := by
  obtain ⟨h1, h2, h3, h4, h5, h6, h7, h8⟩ := h
  exact ⟨Nat.mod_lt _ (by decide), h1, h2, h3, Nat.mod_lt _ (by decide), h5, h6, h7⟩
theorem Rd_ok (W : List Nat) (v : V8) (h : v.Ok) : ∀ t, (Rd W v t).Ok
  | 0 => h
  | t + 1 => round_ok _ _ _ (Rd_ok W v h t)
theorem addV_ok (x y : V8) : (addV x y).Ok := ⟨Nat.mod_lt _ (by decide), Nat.mod_lt _ (by decide), Nat.mod_lt _ (by decide), Nat.mod_lt _ (by decide), Nat.mod_lt _ (by decide), Nat.mod_lt _ (by decide), Nat.mod_lt _ (by decide), Nat.mod_lt _ (by decide)⟩
theorem mixV_ok (v : V8) (l : List UInt8) : (mixV v l).Ok := addV_ok _ _
theorem iv_ok : iv.Ok := by unfold V8.Ok iv; decide
theorem ld_lt (l : List UInt8) (t : Nat) : ld l t < M32 := by
  have h1 := (l.getD (4 * t) 0).toNat_lt; have h2 := (l.getD (4 * t + 1) 0).toNat_lt; have h3 := (l.getD (4 * t + 2) 0).toNat_lt; have h4 := (l.getD (4 * t + 3) 0).toNat_lt
  unfold ld M32; omega
theorem Wd_len (l : List UInt8) : ∀ t, (Wd l t).length = 64
  | 0 => by simp [Wd]
  | t + 1 => by simp [Wd, Wd_len l t]
theorem Wd_lt (l : List UInt8) : ∀ t, ∀ x ∈ Wd l t, x < M32
  | 0, x, h => by simp [Wd] at h; rw [h]; decide
  | t + 1, x, h => by
    simp only [Wd] at h
    rcases List.mem_or_eq_of_mem_set h with h | h
    · exact Wd_lt l t x h
    · rw [h]; split
      · exact ld_lt l t
      · exact wstep_lt _ _
theorem getD_lt {L : List Nat} (h : ∀ x ∈ L, x < M32) (i : Nat) : L.getD i 0 < M32 := by
  rw [List.getD_eq_getElem?_getD]
  cases hx : L[i]? with
  | none => simp
  | some x => simpa using h x (List.mem_of_getElem? hx)
theorem keys_lt : ∀ x ∈ keysL, x < M32 := by decide

/-- words as cells -/
def uv (L : List Nat) : List Value := L.map fun (x : Nat) => .int .u32 (x : Int)
theorem uv_len (L : List Nat) : (uv L).length = L.length := by simp [uv]
theorem uv_get (L : List Nat) (i : Nat) (h : i < L.length) : (uv L)[i]? = some (.int .u32 (L.getD i 0 : Nat)) := by
  simp [uv, h, List.getD_eq_getElem?_getD]
theorem uv_set (L : List Nat) (i x : Nat) : (uv L).set i (.int .u32 (x : Int)) = uv (L.set i x) := by simp [uv, List.map_set]

/-- four bytes, as the walk prints them -/
theorem or4 (x0 x1 x2 x3 : Nat) (h0 : x0 < 256) (h1 : x1 < 256) (h2 : x2 < 256) (h3 : x3 < 256) :
    bits .or .u32 (bits .or .u32 (bits .or .u32 (IntKind.u32.wrap (IntKind.u32.wrap (x0 : Int) * 16777216)) (IntKind.u32.wrap (IntKind.u32.wrap (x1 : Int) * 65536))) (IntKind.u32.wrap (IntKind.u32.wrap (x2 : Int) * 256))) (IntKind.u32.wrap (x3 : Int)) =
      ((x0 * 16777216 + x1 * 65536 + x2 * 256 + x3 : Nat) : Int) := by
  have e0 : IntKind.u32.wrap (IntKind.u32.wrap (x0 : Int) * 16777216) = ((2 ^ 24 * x0 : Nat) : Int) := by simp only [IntKind.wrap_u32]; omega
  have e1 : IntKind.u32.wrap (IntKind.u32.wrap (x1 : Int) * 65536) = ((2 ^ 16 * x1 : Nat) : Int) := by simp only [IntKind.wrap_u32]; omega
  have e2 : IntKind.u32.wrap (IntKind.u32.wrap (x2 : Int) * 256) = ((2 ^ 8 * x2 : Nat) : Int) := by simp only [IntKind.wrap_u32]; omega
  have e3 : IntKind.u32.wrap (x3 : Int) = (x3 : Int) := by simp only [IntKind.wrap_u32]; omega
  rw [e0, e1, e2, e3, u32_or_nat _ _ (by omega) (by omega), ← Nat.two_pow_add_eq_or_of_lt (i := 24) (b := 2 ^ 16 * x1) (by omega) x0,
    show 2 ^ 24 * x0 + 2 ^ 16 * x1 = 2 ^ 16 * (x0 * 256 + x1) by omega, u32_or_nat _ _ (by omega) (by omega), ← Nat.two_pow_add_eq_or_of_lt (i := 16) (b := 2 ^ 8 * x2) (by omega) (x0 * 256 + x1),
    show 2 ^ 16 * (x0 * 256 + x1) + 2 ^ 8 * x2 = 2 ^ 8 * ((x0 * 256 + x1) * 256 + x2) by omega, u32_or_nat _ _ (by omega) (by omega), ← Nat.two_pow_add_eq_or_of_lt (i := 8) (b := x3) (by omega) ((x0 * 256 + x1) * 256 + x2)]
  omega
theorem getD_byte (a : ByteArray) (k : Nat) (h : k < a.size) : (a.data.toList.getD k 0).toNat = a[k].toNat := by
  rw [List.getD_eq_getElem?_getD, List.getElem?_eq_getElem (by simpa using h)]; rfl

theorem sig0_int (X : Nat) (h : X < M32) : ∃ n1 n2 : Nat, bits .xor .u32 (rot X 7 : Nat) (rot X 18 : Nat) = (n1 : Int) ∧ (X : Int) / 8 = (n2 : Int) ∧ bits .xor .u32 (n1 : Int) (n2 : Int) = ((sig0 X : Nat) : Int) :=
  ⟨rot X 7 ^^^ rot X 18, X / 8, u32_xor_nat _ _ (rot_lt _ _ h) (rot_lt _ _ h), by omega,
    u32_xor_nat _ _ (Nat.xor_lt_two_pow (n := 32) (rot_lt _ _ h) (rot_lt _ _ h)) (Nat.lt_of_le_of_lt (Nat.div_le_self _ _) h)⟩
theorem sig1_int (X : Nat) (h : X < M32) : ∃ n1 n2 : Nat, bits .xor .u32 (rot X 17 : Nat) (rot X 19 : Nat) = (n1 : Int) ∧ (X : Int) / 1024 = (n2 : Int) ∧ bits .xor .u32 (n1 : Int) (n2 : Int) = ((sig1 X : Nat) : Int) :=
  ⟨rot X 17 ^^^ rot X 19, X / 1024, u32_xor_nat _ _ (rot_lt _ _ h) (rot_lt _ _ h), by omega,
    u32_xor_nat _ _ (Nat.xor_lt_two_pow (n := 32) (rot_lt _ _ h) (rot_lt _ _ h)) (Nat.lt_of_le_of_lt (Nat.div_le_self _ _) h)⟩
theorem wstep_int (W : List Nat) (t : Nat) : IntKind.u32.wrap (IntKind.u32.wrap (IntKind.u32.wrap ((W.getD (t - 16) 0 : Nat) + (sig0 (W.getD (t - 15) 0) : Nat)) + (W.getD (t - 7) 0 : Nat)) + (sig1 (W.getD (t - 2) 0) : Nat)) = ((wstep W t : Nat) : Int) := by
  simp only [IntKind.wrap_u32]; unfold wstep M32; omega
theorem Wd_next (l : List UInt8) (t : Nat) (h : 16 ≤ t) : (uv (Wd l t)).set t (.int .u32 (wstep (Wd l t) t : Nat)) = uv (Wd l (t + 1)) := by
  rw [uv_set, Wd, if_neg (by omega)]
set_option maxRecDepth 100000 in
theorem index_word (L : List Nat) (t n : Nat) (T : TypeId) (hT : Tryd.prog.underlying T = some (.array n 152)) (h : t < L.length) (hn : t < n) (w : World) :
    (Instr.index T (.agg (uv L).toArray) (.int .i64 (t : Int))).run Tryd.prog w = .ok (.int .u32 (L.getD t 0 : Nat)) w := by
  have hg := uv_get L t h
  have hi : (t : Int) < (n : Int) := by omega
  have hsz : (sizeOf 152).run Tryd.prog w = .ok 1 w := rfl
  have hag : (isAgg 152).run Tryd.prog w = .ok false w := rfl
  have e : ((uv L).toArray)[(t : Int).toNat * 1]? = some (.int .u32 (L.getD t 0 : Nat)) := by simpa using hg
  simp only [Instr.index, asIntOf, Sem.run_bind, Sem.run_pure, Result.andThen, run_underlying hT]
  rw [if_pos ⟨by omega, hi⟩]
  simp only [Sem.run_bind, hsz, Result.andThen, part, hag]
  simp only [Bool.false_eq_true, if_false, e]
  rfl

theorem not32 (c : Nat) (h : c < M32) : bits .xor .u32 IntKind.u32.max (c : Int) = ((4294967295 ^^^ c : Nat) : Int) := by
  have : IntKind.u32.max = ((4294967295 : Nat) : Int) := by decide
  rw [this, u32_xor_nat _ _ (by decide) h]

theorem T1_int (v : V8) (k w : Nat) (hv : v.Ok) :
    IntKind.u32.wrap (IntKind.u32.wrap (IntKind.u32.wrap (IntKind.u32.wrap ((v.h : Int) + bits .xor .u32 (bits .xor .u32 (rot v.e 6 : Nat) (rot v.e 11 : Nat)) (rot v.e 25 : Nat)) +
      bits .xor .u32 (bits .and .u32 (v.e : Int) (v.f : Int)) (bits .and .u32 (bits .xor .u32 IntKind.u32.max (v.e : Int)) (v.g : Int))) + (k : Int)) + (w : Int)) = ((T1 v k w : Nat) : Int) := by
  obtain ⟨h1, h2, h3, h4, h5, h6, h7, h8⟩ := hv
  rw [u32_xor_nat _ _ (rot_lt _ _ h5) (rot_lt _ _ h5), u32_xor_nat _ _ (Nat.xor_lt_two_pow (n := 32) (rot_lt _ _ h5) (rot_lt _ _ h5)) (rot_lt _ _ h5), not32 _ h5,
    u32_and_nat _ _ h5 h6, u32_and_nat _ _ (Nat.xor_lt_two_pow (n := 32) (by decide) h5) h7,
    u32_xor_nat _ _ (Nat.lt_of_le_of_lt Nat.and_le_left h5) (Nat.lt_of_le_of_lt Nat.and_le_right h7)]
  have e1 : rot v.e 6 ^^^ rot v.e 11 ^^^ rot v.e 25 = Sig1 v.e := rfl
  have e2 : (v.e &&& v.f) ^^^ ((4294967295 ^^^ v.e) &&& v.g) = ch v.e v.f v.g := rfl
  rw [e1, e2]
  simp only [IntKind.wrap_u32]; unfold T1 M32; omega
theorem T2_int (v : V8) (hv : v.Ok) :
    IntKind.u32.wrap (bits .xor .u32 (bits .xor .u32 (rot v.a 2 : Nat) (rot v.a 13 : Nat)) (rot v.a 22 : Nat) +
      bits .xor .u32 (bits .xor .u32 (bits .and .u32 (v.a : Int) (v.b : Int)) (bits .and .u32 (v.a : Int) (v.c : Int))) (bits .and .u32 (v.b : Int) (v.c : Int))) = ((T2 v : Nat) : Int) := by
  obtain ⟨h1, h2, h3, h4, h5, h6, h7, h8⟩ := hv
  rw [u32_xor_nat _ _ (rot_lt _ _ h1) (rot_lt _ _ h1), u32_xor_nat _ _ (Nat.xor_lt_two_pow (n := 32) (rot_lt _ _ h1) (rot_lt _ _ h1)) (rot_lt _ _ h1),
    u32_and_nat _ _ h1 h2, u32_and_nat _ _ h1 h3, u32_and_nat _ _ h2 h3,
    u32_xor_nat _ _ (Nat.lt_of_le_of_lt Nat.and_le_left h1) (Nat.lt_of_le_of_lt Nat.and_le_left h1),
    u32_xor_nat _ _ (Nat.xor_lt_two_pow (n := 32) (Nat.lt_of_le_of_lt Nat.and_le_left h1) (Nat.lt_of_le_of_lt Nat.and_le_left h1)) (Nat.lt_of_le_of_lt Nat.and_le_left h2)]
  have e1 : rot v.a 2 ^^^ rot v.a 13 ^^^ rot v.a 22 = Sig0 v.a := rfl
  have e2 : (v.a &&& v.b) ^^^ (v.a &&& v.c) ^^^ (v.b &&& v.c) = maj v.a v.b v.c := rfl
  rw [e1, e2]
  simp only [IntKind.wrap_u32]; unfold T2 M32; omega

theorem has8 {w : World} {b : Nat} {T : TypeId} (v0 v1 v2 v3 v4 v5 v6 v7 : Value) {cs : List Value} (h : Has w b cs T) (hl : cs.length = 8) : Has ((((((((w.setCell ⟨b, 0, none⟩ v0).setCell ⟨b, 1, none⟩ v1).setCell ⟨b, 2, none⟩ v2).setCell ⟨b, 3, none⟩ v3).setCell ⟨b, 4, none⟩ v4).setCell ⟨b, 5, none⟩ v5).setCell ⟨b, 6, none⟩ v6).setCell ⟨b, 7, none⟩ v7) b [v0, v1, v2, v3, v4, v5, v6, v7] T := by
  match cs, hl, h with
  | [_, _, _, _, _, _, _, _], _, h => exact ((((((((h.set 0 v0).set 1 v1).set 2 v2).set 3 v3).set 4 v4).set 5 v5).set 6 v6).set 7 v7)
theorem other8 {w : World} {b g : Nat} {T : TypeId} (v0 v1 v2 v3 v4 v5 v6 v7 : Value) {cs : List Value} (h : Has w g cs T) (hb : g ≠ b) : Has ((((((((w.setCell ⟨b, 0, none⟩ v0).setCell ⟨b, 1, none⟩ v1).setCell ⟨b, 2, none⟩ v2).setCell ⟨b, 3, none⟩ v3).setCell ⟨b, 4, none⟩ v4).setCell ⟨b, 5, none⟩ v5).setCell ⟨b, 6, none⟩ v6).setCell ⟨b, 7, none⟩ v7) g cs T := ((((((((h.other (p := ⟨b, 0, none⟩) hb v0).other (p := ⟨b, 1, none⟩) hb v1).other (p := ⟨b, 2, none⟩) hb v2).other (p := ⟨b, 3, none⟩) hb v3).other (p := ⟨b, 4, none⟩) hb v4).other (p := ⟨b, 5, none⟩) hb v5).other (p := ⟨b, 6, none⟩) hb v6).other (p := ⟨b, 7, none⟩) hb v7)
theorem mod8 {S : Nat → Prop} {x w : World} {b : Nat} (v0 v1 v2 v3 v4 v5 v6 v7 : Value) (h : Mod S x w) (hb : x.heap.size ≤ b) : Mod S x ((((((((w.setCell ⟨b, 0, none⟩ v0).setCell ⟨b, 1, none⟩ v1).setCell ⟨b, 2, none⟩ v2).setCell ⟨b, 3, none⟩ v3).setCell ⟨b, 4, none⟩ v4).setCell ⟨b, 5, none⟩ v5).setCell ⟨b, 6, none⟩ v6).setCell ⟨b, 7, none⟩ v7) := (Mod.setCell (Mod.setCell (Mod.setCell (Mod.setCell (Mod.setCell (Mod.setCell (Mod.setCell (Mod.setCell h (p := ⟨b, 0, none⟩) (.inr hb) v0) (p := ⟨b, 1, none⟩) (.inr hb) v1) (p := ⟨b, 2, none⟩) (.inr hb) v2) (p := ⟨b, 3, none⟩) (.inr hb) v3) (p := ⟨b, 4, none⟩) (.inr hb) v4) (p := ⟨b, 5, none⟩) (.inr hb) v5) (p := ⟨b, 6, none⟩) (.inr hb) v6) (p := ⟨b, 7, none⟩) (.inr hb) v7)

/-- the first i of the numbers added -/
def addL (L0 L1 : List Nat) : Nat → List Nat
  | 0 => L0
  | i + 1 => (addL L0 L1 i).set i ((L0.getD i 0 + L1.getD i 0) % M32)
theorem addL_len (L0 L1 : List Nat) : ∀ i, (addL L0 L1 i).length = L0.length
  | 0 => rfl
  | i + 1 => by rw [addL, List.length_set, addL_len L0 L1 i]
theorem addL_get (L0 L1 : List Nat) : ∀ i j, i ≤ j → (addL L0 L1 i).getD j 0 = L0.getD j 0
  | 0, _, _ => rfl
  | i + 1, j, h => by
    rw [addL, List.getD_eq_getElem?_getD, List.getElem?_set_ne (by omega), ← List.getD_eq_getElem?_getD]
    exact addL_get L0 L1 i j (by omega)
theorem addL_all (x y : V8) : addL x.list y.list 8 = (addV x y).list := rfl
theorem addL_step (L0 L1 : List Nat) (i : Nat) : (uv (addL L0 L1 i)).set i (.int .u32 ((L0.getD i 0 + L1.getD i 0) % M32 : Nat)) = uv (addL L0 L1 (i + 1)) := by rw [uv_set, addL]
theorem v8_len (v : V8) : v.list.length = 8 := rfl

theorem blocks_ok (l : List UInt8) (v : V8) (h : v.Ok) : ∀ n, (blocks l v n).Ok
  | 0 => h
  | _ + 1 => mixV_ok _ _
end Hash
end Go.Proofs.YtpoljpjcmigobaaDoor
/- The walk of hash.number. -/
namespace Go.Proofs.YtpoljpjcmigobaaDoor
set_option linter.unusedVariables false
set_option linter.unusedSimpArgs false
open Go.RowKit K
namespace Hash

theorem made_bytes (n : Nat) : madeCells #[Value.int .u8 0] n = (List.replicate n (Value.int .u8 0)).toArray := by
  apply Array.ext
  · simp [madeCells]
  · intro i h1 h2
    simp [madeCells, Nat.mod_one]

theorem make_bytes (n : Nat) (hn : n ≤ 2097152) (w : World) : (Instr.makeSlice 111 (.int .i64 (n : Int)) (.int .i64 (n : Int))).run Tryd.prog w = .ok (.slice (some ⟨w.heap.size, 0, none⟩) n n) (w.alloc (.cells (bv (List.replicate n 0)).toArray 5)) := by
  obtain ⟨i, hi, hz0, hz1, hz2⟩ := info_parts (P := Tryd.prog) (e := 5) (z := .int .u8 0) (size := 1) (bytes := 1) (by kernel_rfl)
  have h := run_make (P := Tryd.prog) w 111 5 i (.int .u8 0) Tryd.underlying111 hi hz0 .i64 .i64 (n : Int) (n : Int) (by omega) (by omega) (by rw [hz2]; omega) (by omega)
  rw [hz1] at h
  rw [show (Value.int .u8 0).cells = #[Value.int .u8 0] from rfl, made_bytes] at h
  simpa [bv] using h

theorem be_set (l : List UInt8) (t : Nat) (h : t < l.length) : (bv (l.take t ++ List.replicate (l.length - t) 0)).set t (.int .u8 (l[t].toNat : Int)) = bv (l.take (t + 1) ++ List.replicate (l.length - (t + 1)) 0) := by
  have e : l.length - t = (l.length - (t + 1)) + 1 := by omega
  have e2 : (bv (l.take t)).length = t := by rw [bv_length, List.length_take]; omega
  rw [e, List.replicate_succ, bv_append, List.set_append_right _ _ (by omega), e2, Nat.sub_self]
  rw [List.take_succ_eq_append_getElem h, List.append_assoc, bv_append]
  rfl
theorem be_cell (l : List UInt8) (t : Nat) (h : t < l.length) : (bv (l.take t ++ List.replicate (l.length - t) 0))[t]? = some (.int .u8 0) := by
  have e : l.length - t = (l.length - (t + 1)) + 1 := by omega
  have e2 : (bv (l.take t)).length = t := by rw [bv_length, List.length_take]; omega
  rw [e, List.replicate_succ, bv_append, List.getElem?_append_right (by omega), e2, Nat.sub_self]
  rfl
theorem be_get (size n t : Nat) (h : t < (be size n).length) : (((be size n)[t]).toNat : Int) = (n : Int) / 2 ^ (8 * (size - 1 - t)) % 256 := by
  simp [be]
theorem be_len (size n : Nat) : (be size n).length = size := by simp [be]

set_option maxRecDepth 100000 in
set_option maxHeartbeats 1000000 in
theorem number_calls (n size : Nat) (w : World) (hn : n < 18446744073709551616) (hs : 0 < size ∧ size ≤ 8) :
    Calls Tryd.prog 100 #[.int .u64 n, .int .i64 size] w fun e w' => e = .returned (.slice (some ⟨w.heap.size, 0, none⟩) size size) ∧ Has w' w.heap.size (bv (be size n)) 5 ∧ Mod (fun _ => False) w w' := by
  have hmk := make_bytes size (by omega) w
  obtain ⟨hs0, hs1⟩ := hs
  go_enter Tryd.func100, Tryd.ntmps100
  go_wp2_with fail
  go_loopw [11] (fun i w' => ∃ (t : Nat), i = .int .i64 t ∧ t ≤ size ∧ Has w' w.heap.size (bv ((be size n).take t ++ List.replicate (size - t) 0)) 5 ∧ Hid (Mod (fun _ => False) w w')) (fun i _ => size - (intOf i).toNat)
  case atStart => exact ⟨0, by go_num, by omega, by simpa using Has.new w (bv (List.replicate size 0)) 5, Lib.hid (Mod.alloc (Mod.refl _ _) _)⟩
  case round =>
    obtain ⟨t, rfl, ht, hh, HM⟩ := hrel
    by_cases hlt : t < size
    · have i1 : (t : Int) < (size : Int) := by omega
      obtain ⟨s, hsh⟩ : ∃ s : Nat, 8 * ((size : Int) - 1 - (t : Int)) = (s : Int) ∧ s = 8 * (size - 1 - t) := ⟨8 * (size - 1 - t), by omega, rfl⟩
      have hlen := be_len size n
      have hcl := hh.cell (hlen ▸ be_cell (be size n) t (by omega))
      have hst := hlen ▸ be_set (be size n) t (by omega)
      rw [be_get] at hst
      have hfz := hh.frozen t
      go_wp2_with fail
      refine ⟨⟨t + 1, by go_num, by omega, hst ▸ hh.set t _, Lib.hid (HM.out.setCell (p := ⟨w.heap.size, t, none⟩) (.inr (Nat.le_refl _)) _)⟩, by simp [intOf]; omega⟩
    · obtain rfl : t = size := by omega
      rw [List.take_of_length_le (by rw [be_len]; omega), Nat.sub_self, List.replicate_zero, List.append_nil] at hh
      go_wp2_with fail
      go_ret
      exact ⟨rfl, hh, HM.out⟩
end Hash
end Go.Proofs.YtpoljpjcmigobaaDoor
