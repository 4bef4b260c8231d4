/- What the wal's bytes are, as plain functions on lists; nothing of the program stands here. No condition. -/
namespace Go.Proofs.YtipbfmalacnmkaaGreat

def hi7 (k : Nat) : UInt8 := UInt8.ofNat (k % 128 + 128)
def lo8 (k : Nat) : UInt8 := UInt8.ofNat k
theorem hi7_toNat (k : Nat) : (hi7 k).toNat = k % 128 + 128 := by unfold hi7; rw [UInt8.toNat_ofNat']; omega
theorem lo8_toNat (k : Nat) : (lo8 k).toNat = k % 256 := by unfold lo8; rw [UInt8.toNat_ofNat']

/-- The bytes of a number. -/
def uint (n : Nat) : List UInt8 := if 127 < n then hi7 n :: uint (n / 128) else [lo8 n]
theorem uint_big {n : Nat} (h : 127 < n) : uint n = hi7 n :: uint (n / 128) := by rw [uint, if_pos h]
theorem uint_small {n : Nat} (h : ¬ 127 < n) : uint n = [lo8 n] := by rw [uint, if_neg h]
theorem uint_pos (n : Nat) : 1 ≤ (uint n).length := by rw [uint]; split <;> simp
theorem uint_len (j : Nat) : ∀ n, n < 128 ^ (j + 1) → (uint n).length ≤ j + 1 := by
  induction j with
  | zero => intro n h; rw [uint_small (by simp at h; omega)]; simp
  | succ j ih =>
    intro n h
    by_cases h1 : 127 < n
    · rw [uint_big h1, List.length_cons]
      have := ih (n / 128) (by rw [Nat.pow_succ] at h; exact Nat.div_lt_of_lt_mul (by rw [Nat.mul_comm]; exact h))
      omega
    · rw [uint_small h1]; simp
theorem uint_le (n : Nat) (h : n ≤ 1152921504606846976) : (uint n).length ≤ 9 := uint_len 8 n (by simp; omega)

structure Ent where
  term : Int
  data : ByteArray
  deriving DecidableEq
structure Sv where
  term : Int
  vote : Int
  log : List Ent

def Ent.bytes (x : Ent) : List UInt8 := uint x.term.toNat ++ (uint x.data.size ++ x.data.data.toList)
def entsBytes (l : List Ent) : List UInt8 := l.flatMap Ent.bytes
theorem entsBytes_nil : entsBytes [] = [] := rfl
theorem entsBytes_cons (x : Ent) (l : List Ent) : entsBytes (x :: l) = x.bytes ++ entsBytes l := by simp [entsBytes]
theorem entsBytes_snoc (x : Ent) (l : List Ent) : entsBytes (l ++ [x]) = entsBytes l ++ x.bytes := by simp [entsBytes]
def zig (n : Int) : Nat := if n < 0 then (-(2 * n) - 1).toNat else (2 * n).toNat

/-- How many entries two logs begin with alike. -/
def common : List Ent → List Ent → Nat
  | x :: l, y :: m => if x = y then common l m + 1 else 0
  | _, _ => 0

def recBytes (term vote : Int) (cut : Nat) (es : List Ent) : List UInt8 :=
  uint term.toNat ++ (uint (zig vote) ++ (uint cut ++ (uint es.length ++ entsBytes es)))
def record (was s : Sv) : List UInt8 := recBytes s.term s.vote (common was.log s.log) (s.log.drop (common was.log s.log))

/-! ### frames -/
def rowStep (c : Nat) : Nat := (c / 2) ^^^ (3988292384 * (c % 2))
def tabAt (i : Nat) : Nat := rowStep (rowStep (rowStep (rowStep i)))
def halfByte (c : Nat) : Nat := (c / 16) ^^^ tabAt (c % 16)
def crcByte (c : Nat) (x : UInt8) : Nat := halfByte (halfByte (c ^^^ x.toNat))
def sum32 (b : List UInt8) : Nat := 4294967295 ^^^ b.foldl crcByte 4294967295
def put32 (n : Nat) : List UInt8 := [lo8 n, lo8 (n / 256), lo8 (n / 65536), lo8 (n / 16777216)]
def frame (body : List UInt8) : List UInt8 := put32 body.length ++ (put32 (sum32 (put32 body.length)) ++ (body ++ put32 (sum32 body)))
theorem frame_length (body : List UInt8) : (frame body).length = body.length + 12 := by simp [frame, put32]

theorem xor_lt (a b : Nat) (ha : a < 4294967296) (hb : b < 4294967296) : a ^^^ b < 4294967296 := Nat.xor_lt_two_pow (n := 32) ha hb
theorem rowStep_lt (c : Nat) (h : c < 4294967296) : rowStep c < 4294967296 := by
  unfold rowStep
  refine xor_lt _ _ (by omega) ?_
  have : c % 2 = 0 ∨ c % 2 = 1 := by omega
  rcases this with h | h <;> rw [h] <;> omega
theorem tabAt_lt (i : Nat) (h : i < 4294967296) : tabAt i < 4294967296 := rowStep_lt _ (rowStep_lt _ (rowStep_lt _ (rowStep_lt _ h)))
theorem halfByte_lt (c : Nat) (h : c < 4294967296) : halfByte c < 4294967296 := xor_lt _ _ (by omega) (tabAt_lt _ (by omega))
theorem crcByte_lt (c : Nat) (x : UInt8) (h : c < 4294967296) : crcByte c x < 4294967296 :=
  halfByte_lt _ (halfByte_lt _ (xor_lt _ _ h (by have := x.toNat_lt; omega)))
theorem crcFold_lt (l : List UInt8) : ∀ c, c < 4294967296 → l.foldl crcByte c < 4294967296 := by
  induction l with
  | nil => exact fun c h => h
  | cons x l ih => exact fun c h => ih _ (crcByte_lt c x h)
theorem sum32_lt (b : List UInt8) : sum32 b < 4294967296 := xor_lt _ _ (by decide) (crcFold_lt _ _ (by decide))

/-- A record as frames. -/
def run (rec : List UInt8) : List UInt8 :=
  if 60000 < rec.length then frame (0 :: rec.take 60000) ++ run (rec.drop 60000) else frame (1 :: rec)
termination_by rec.length
decreasing_by simp; omega
theorem run_big {rec : List UInt8} (h : 60000 < rec.length) : run rec = frame (0 :: rec.take 60000) ++ run (rec.drop 60000) := by rw [run, if_pos h]
theorem run_small {rec : List UInt8} (h : ¬ 60000 < rec.length) : run rec = frame (1 :: rec) := by rw [run, if_neg h]
end Go.Proofs.YtipbfmalacnmkaaGreat
