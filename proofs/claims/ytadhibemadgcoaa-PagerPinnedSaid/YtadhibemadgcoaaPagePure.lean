/- Bytes of numbers, laid into a list; the sum of bytes: plain lists, no program. Conditions: as each lemma says. -/
import Derived.Test.YtadhibemadgcoaaBase
namespace Go.Proofs.Ytadhibemadgcoaa
open Go.RowKit

/-- The n bytes of x, the highest first. -/
def be (x : Nat) : Nat → List UInt8
  | 0 => []
  | n + 1 => UInt8.ofNat (x / 256 ^ n) :: be x n
theorem be_length (x n : Nat) : (be x n).length = n := by
  induction n with
  | zero => rfl
  | succ n ih => simp [be, ih]

theorem byte_of (x m : Nat) : ((x : Int) / 2 ^ (8 * m) % 256) = ((UInt8.ofNat (x / 256 ^ m)).toNat : Int) := by
  have h : (2 : Nat) ^ (8 * m) = 256 ^ m := by rw [Nat.pow_mul]
  have h2 : ((2 : Int) ^ (8 * m)) = ((256 ^ m : Nat) : Int) := by rw [← h]; simp
  rw [h2, UInt8.toNat_ofNat']
  generalize 256 ^ m = p
  rw [show (2 : Nat) ^ 8 = 256 from rfl, Int.natCast_emod, Int.natCast_ediv]
  rfl

/-- Bytes laid into a list from place i on. -/
def putAt : List UInt8 → Nat → List UInt8 → List UInt8
  | l, _, [] => l
  | l, i, b :: bs => putAt (l.set i b) (i + 1) bs
theorem putAt_length (bs : List UInt8) : ∀ (l : List UInt8) (i : Nat), (putAt l i bs).length = l.length := by
  induction bs with
  | nil => intro l i; rfl
  | cons b bs ih => intro l i; simp [putAt, ih]
theorem putAt_eq (bs : List UInt8) : ∀ (l : List UInt8) (i : Nat), i + bs.length ≤ l.length → putAt l i bs = l.take i ++ bs ++ l.drop (i + bs.length) := by
  induction bs with
  | nil => intro l i _; simp [putAt]
  | cons b bs ih =>
    intro l i h
    simp only [List.length_cons] at h
    have hi : i < l.length := by omega
    rw [putAt, ih _ _ (by simp; omega)]
    have h1 : (l.set i b).take (i + 1) = l.take i ++ [b] := by
      rw [List.take_add_one]
      simp [hi, List.take_set_of_le]
    have h2 : (l.set i b).drop (i + 1 + bs.length) = l.drop (i + (bs.length + 1)) := by
      rw [List.drop_set_of_lt (by omega)]
      congr 1; omega
    rw [h1, h2]
    simp

/-- The sum of bytes: each times one more than its place. -/
def sumF : Nat → List UInt8 → Nat
  | _, [] => 0
  | i, c :: cs => (i + 1) * c.toNat + sumF (i + 1) cs
def sumB (l : List UInt8) : Nat := sumF 0 l % 4294967296
theorem sumB_lt (l : List UInt8) : sumB l < 4294967296 := Nat.mod_lt _ (by omega)
theorem sumF_drop (l : List UInt8) (k i : Nat) (h : k < l.length) : sumF i (l.drop k) = (i + 1) * l[k].toNat + sumF (i + 1) (l.drop (k + 1)) := by
  rw [List.drop_eq_getElem_cons h]; rfl

/-- The number of some bytes, the highest first. -/
def rdl (l : List UInt8) : Nat := l.foldl (fun x c => x * 256 + c.toNat) 0
theorem rdl_snoc (l : List UInt8) (c : UInt8) : rdl (l ++ [c]) = rdl l * 256 + c.toNat := by simp [rdl]
theorem take_snoc_at {α : Type} (l : List α) (i j : Nat) (h : i + j < l.length) : (l.drop i).take (j + 1) = (l.drop i).take j ++ [l[i + j]] := by
  rw [List.take_succ_eq_append_getElem (by simp; omega)]
  simp

theorem or_step (z : Int) (c : Nat) (hc : c < 256) : bits .or .i64 (wrap64 (wrap64 z * 256)) (c : Int) = wrap64 (z * 256 + c) := by
  unfold bits
  have h1 : (BitVec.ofInt 64 (wrap64 (wrap64 z * 256))).toNat = 256 * ((z % 72057594037927936).toNat) := by
    rw [BitVec.toNat_ofInt]; unfold wrap64; omega
  have h2 : (BitVec.ofInt 64 (c : Int)).toNat = c := by
    rw [BitVec.toNat_ofInt]; omega
  show IntKind.i64.wrap ((BitVec.ofInt 64 (wrap64 (wrap64 z * 256)) ||| BitVec.ofInt 64 (c : Int)).toNat : Int) = _
  rw [BitVec.toNat_or, h1, h2]
  have h3 := Nat.two_pow_add_eq_or_of_lt (i := 8) (b := c) hc ((z % 72057594037927936).toNat)
  rw [show (2 : Nat) ^ 8 = 256 from rfl] at h3
  rw [← h3, IntKind.wrap_i64]
  unfold wrap64
  omega

end Go.Proofs.Ytadhibemadgcoaa
