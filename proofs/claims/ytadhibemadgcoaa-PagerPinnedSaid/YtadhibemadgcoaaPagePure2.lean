/- A page's and a root's sector, written out in a row: plain lists. Conditions: the content has room. -/
import Derived.Test.YtadhibemadgcoaaPageF
namespace Go.Proofs.Ytadhibemadgcoaa

theorem zeros_add (a b : Nat) : zeros (a + b) = zeros a ++ zeros b := by simp [zeros]
theorem putAt_mid (p q r bs : List UInt8) (h : q.length = bs.length) : putAt (p ++ (q ++ r)) p.length bs = p ++ (bs ++ r) := by
  rw [putAt_eq _ _ _ (by simp; omega)]
  rw [List.take_left, ← h, ← List.length_append, ← List.append_assoc p q r, List.drop_left]
  simp
theorem putAt_zeros (p bs : List UInt8) (i k n : Nat) (hi : i = p.length) (h : bs.length = k) : putAt (p ++ zeros (k + n)) i bs = (p ++ bs) ++ zeros n := by
  subst hi
  rw [zeros_add, putAt_mid p _ _ bs (by rw [zeros_length, h])]
  simp

/-- The head of a page's sector: its first twelve bytes. -/
def headB (kind gen n : Nat) : List UInt8 := [72, 118] ++ be kind 1 ++ [0] ++ be n 2 ++ be gen 6
theorem headB_length (kind gen n : Nat) : (headB kind gen n).length = 12 := by simp [headB, be_length]

theorem seal0_row (kind gen : Nat) (s : List UInt8) (h : s.length ≤ 492) : seal0 kind gen s = headB kind gen s.length ++ (zeros 4 ++ (zeros 4 ++ (s ++ zeros (492 - s.length)))) := by
  have e1 : be 18550 2 = [72, 118] := by decide
  have e2 : be 0 1 = [0] := by decide
  unfold seal0
  rw [e1, e2]
  have s1 : putAt (zeros 512) 0 [72, 118] = [72, 118] ++ zeros 510 := putAt_zeros [] [72, 118] 0 2 510 rfl rfl
  rw [s1]
  have s2 : putAt ([72, 118] ++ zeros 510) 2 (be kind 1) = ([72, 118] ++ be kind 1) ++ zeros 509 := putAt_zeros [72, 118] (be kind 1) 2 1 509 rfl (be_length _ _)
  rw [s2]
  have s3 := putAt_zeros ([72, 118] ++ be kind 1) [0] 3 1 508 (by simp [be_length]) rfl
  rw [show (1 + 508) = 509 from rfl] at s3
  rw [s3]
  have s4 := putAt_zeros ([72, 118] ++ be kind 1 ++ [0]) (be s.length 2) 4 2 506 (by simp [be_length]) (be_length _ _)
  rw [show (2 + 506) = 508 from rfl] at s4
  rw [s4]
  have s5 := putAt_zeros ([72, 118] ++ be kind 1 ++ [0] ++ be s.length 2) (be gen 6) 6 6 500 (by simp [be_length]) (be_length _ _)
  rw [show (6 + 500) = 506 from rfl] at s5
  rw [s5]
  have s6 := putAt_zeros (headB kind gen s.length ++ zeros 8) s 20 s.length (492 - s.length) (by simp [headB_length, zeros_length]) rfl
  rw [show s.length + (492 - s.length) = 492 by omega] at s6
  rw [show (500 : Nat) = 8 + 492 from rfl, zeros_add 8 492, ← List.append_assoc]
  show putAt (headB kind gen s.length ++ zeros 8 ++ zeros 492) 20 s = _
  rw [s6, show (8 : Nat) = 4 + 4 from rfl, zeros_add 4 4]
  simp

theorem sealB_row (kind gen : Nat) (s : List UInt8) (h : s.length ≤ 492) :
    sealB kind gen s = headB kind gen s.length ++ (be (sumB (headB kind gen s.length ++ (zeros 4 ++ (zeros 4 ++ (s ++ zeros (492 - s.length)))))) 4 ++ (zeros 4 ++ (s ++ zeros (492 - s.length)))) := by
  unfold sealB
  rw [seal0_row kind gen s h]
  have := putAt_mid (headB kind gen s.length) (zeros 4) (zeros 4 ++ (s ++ zeros (492 - s.length))) (be (sumB (headB kind gen s.length ++ (zeros 4 ++ (zeros 4 ++ (s ++ zeros (492 - s.length)))))) 4) (by rw [zeros_length, be_length])
  rw [headB_length] at this
  exact this

theorem rootB_row (gen : Nat) (s : List UInt8) (h : s.length ≤ 490) : rootB gen s = be gen 8 ++ (be s.length 2 ++ (s ++ (zeros (494 - s.length) ++ be gen 8))) := by
  unfold rootB
  have s1 : putAt (zeros 512) 0 (be gen 8) = be gen 8 ++ zeros 504 := putAt_zeros [] (be gen 8) 0 8 504 rfl (be_length _ _)
  rw [s1]
  have s2 : putAt (be gen 8 ++ zeros 504) 8 (be s.length 2) = be gen 8 ++ be s.length 2 ++ zeros 502 := putAt_zeros (be gen 8) (be s.length 2) 8 2 502 (by rw [be_length]) (be_length _ _)
  rw [s2]
  have s3 := putAt_zeros (be gen 8 ++ be s.length 2) s 10 s.length (502 - s.length) (by simp [be_length]) rfl
  rw [show s.length + (502 - s.length) = 502 by omega] at s3
  rw [s3]
  have s4 := putAt_zeros (be gen 8 ++ be s.length 2 ++ s ++ zeros (494 - s.length)) (be gen 8) 504 8 0 (by simp [be_length, zeros_length]; omega) (be_length _ _)
  rw [show 502 - s.length = (494 - s.length) + (8 + 0) by omega, zeros_add (494 - s.length), ← List.append_assoc (be gen 8 ++ be s.length 2 ++ s), s4]
  simp [zeros]

end Go.Proofs.Ytadhibemadgcoaa
