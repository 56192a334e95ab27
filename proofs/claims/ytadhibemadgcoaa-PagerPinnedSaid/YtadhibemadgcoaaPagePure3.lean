/- What was sealed is opened as it was: plain lists. Conditions: the numbers and the content fit. -/
import Derived.Test.YtadhibemadgcoaaRefR
namespace Go.Proofs.Ytadhibemadgcoaa

theorem rdl_be (x n : Nat) : rdl (be x n) = x % 256 ^ n := by
  induction n with
  | zero => simp [be, rdl, Nat.mod_one]
  | succ n ih =>
    rw [be, rdl_cons, be_length, ih, UInt8.toNat_ofNat', show (2 : Nat) ^ 8 = 256 from rfl, Nat.pow_succ, Nat.mod_mul, Nat.mul_comm, Nat.add_comm]

theorem cut_mid (p q r : List UInt8) (i n : Nat) (hi : i = p.length) (hn : n = q.length) : ((p ++ (q ++ r)).drop i).take n = q := by
  subst hi hn
  rw [List.drop_left, List.take_left]

theorem open_seal (k g : Nat) (s : List UInt8) (hk : k ≤ 255) (hg : g ≤ 281474976710655) (hs : s.length ≤ 492) : openL (sealB k g s) = some (k, g, s) := by
  have hrow := sealB_row k g s hs
  generalize (sumB (headB k g s.length ++ (zeros 4 ++ (zeros 4 ++ (s ++ zeros (492 - s.length)))))) = S at hrow
  have e1 : ((sealB k g s).drop 2).take 1 = be k 1 := by
    rw [hrow, show headB k g s.length ++ (be S 4 ++ (zeros 4 ++ (s ++ zeros (492 - s.length)))) = [72, 118] ++ (be k 1 ++ ([0] ++ be s.length 2 ++ be g 6 ++ (be S 4 ++ (zeros 4 ++ (s ++ zeros (492 - s.length)))))) by simp [headB]]
    exact cut_mid _ _ _ _ _ rfl (be_length _ _).symm
  have e2 : ((sealB k g s).drop 4).take 2 = be s.length 2 := by
    rw [hrow, show headB k g s.length ++ (be S 4 ++ (zeros 4 ++ (s ++ zeros (492 - s.length)))) = ([72, 118] ++ be k 1 ++ [0]) ++ (be s.length 2 ++ (be g 6 ++ (be S 4 ++ (zeros 4 ++ (s ++ zeros (492 - s.length)))))) by simp [headB]]
    exact cut_mid _ _ _ _ _ (by simp [be_length]) (be_length _ _).symm
  have e3 : ((sealB k g s).drop 6).take 6 = be g 6 := by
    rw [hrow, show headB k g s.length ++ (be S 4 ++ (zeros 4 ++ (s ++ zeros (492 - s.length)))) = ([72, 118] ++ be k 1 ++ [0] ++ be s.length 2) ++ (be g 6 ++ (be S 4 ++ (zeros 4 ++ (s ++ zeros (492 - s.length))))) by simp [headB]]
    exact cut_mid _ _ _ _ _ (by simp [be_length]) (be_length _ _).symm
  have e4 : ((sealB k g s).drop 20).take s.length = s := by
    rw [hrow, show headB k g s.length ++ (be S 4 ++ (zeros 4 ++ (s ++ zeros (492 - s.length)))) = (headB k g s.length ++ (be S 4 ++ zeros 4)) ++ (s ++ zeros (492 - s.length)) by simp]
    exact cut_mid _ _ _ _ _ (by simp [headB_length, be_length, zeros_length]) rfl
  have r1 : rdl (be k 1) = k := by rw [rdl_be]; exact Nat.mod_eq_of_lt (by omega)
  have r2 : rdl (be s.length 2) = s.length := by rw [rdl_be]; exact Nat.mod_eq_of_lt (by omega)
  have r3 : rdl (be g 6) = g := by rw [rdl_be]; exact Nat.mod_eq_of_lt (by omega)
  rw [openL, e1, e2, e3, r1, r2, r3, e4, if_pos ⟨sealB_length _ _ _, hs, rfl⟩]

theorem open_some {l : List UInt8} {k g : Nat} {s : List UInt8} (h : openL l = some (k, g, s)) : l.length = 512 ∧ k ≤ 255 ∧ g ≤ 281474976710655 ∧ s.length ≤ 492 ∧ sealB k g s = l := by
  unfold openL at h
  split at h
  · rename_i hc
    simp only [Option.some.injEq, Prod.mk.injEq] at h
    obtain ⟨rfl, rfl, rfl⟩ := h
    refine ⟨hc.1, ?_, ?_, ?_, hc.2.2⟩
    · have := rdl_take_lt l 2 1; omega
    · have := rdl_take_lt l 6 6; omega
    · simp; omega
  · cases h

theorem root_seal (g : Nat) (s : List UInt8) (h1 : 1 ≤ g) (hg : g ≤ 4611686018427387904) (hs : s.length ≤ 490) : rootL (rootB g s) = some (g, s) := by
  have hrow := rootB_row g s hs
  have e1 : (rootB g s).take 8 = be g 8 := by
    rw [hrow]
    have := cut_mid [] (be g 8) (be s.length 2 ++ (s ++ (zeros (494 - s.length) ++ be g 8))) 0 8 rfl (be_length _ _).symm
    simpa using this
  have e2 : ((rootB g s).drop 8).take 2 = be s.length 2 := by
    rw [hrow]
    exact cut_mid _ _ _ _ _ (be_length _ _).symm (be_length _ _).symm
  have e3 : ((rootB g s).drop 10).take s.length = s := by
    rw [hrow, ← List.append_assoc]
    exact cut_mid _ _ _ _ _ (by simp [be_length]) rfl
  have r1 : rdl (be g 8) = g := by rw [rdl_be]; exact Nat.mod_eq_of_lt (by omega)
  have r2 : rdl (be s.length 2) = s.length := by rw [rdl_be]; exact Nat.mod_eq_of_lt (by omega)
  rw [rootL, e1, e2, r1, r2, e3, if_pos ⟨rootB_length _ _, hs, ⟨h1, hg⟩, rfl⟩]

theorem root_some {l : List UInt8} {g : Nat} {s : List UInt8} (h : rootL l = some (g, s)) : l.length = 512 ∧ 1 ≤ g ∧ g ≤ 4611686018427387904 ∧ s.length ≤ 490 ∧ rootB g s = l := by
  unfold rootL at h
  split at h
  · rename_i hc
    simp only [Option.some.injEq, Prod.mk.injEq] at h
    obtain ⟨rfl, rfl⟩ := h
    refine ⟨hc.1, hc.2.2.1.1, hc.2.2.1.2, ?_, hc.2.2.2⟩
    simp; omega
  · cases h

theorem seal_head (k g : Nat) (s : List UInt8) (hs : s.length ≤ 492) : (sealB k g s).take 12 = headB k g s.length := by
  rw [sealB_row k g s hs]
  have h := headB_length k g s.length
  rw [← h, List.take_left]

end Go.Proofs.Ytadhibemadgcoaa
