/- Two roots' sectors, cut together anywhere, are one of the two or none: plain lists. Conditions: unlike gens. -/
import Derived.Test.YtadhibemadgcoaaPagePure3
namespace Go.Proofs.Ytadhibemadgcoaa

theorem be_inj8 {a b : Nat} (ha : a ≤ 4611686018427387904) (hb : b ≤ 4611686018427387904) (h : be a 8 = be b 8) : a = b := by
  have := congrArg rdl h
  rw [rdl_be, rdl_be, Nat.mod_eq_of_lt (by omega), Nat.mod_eq_of_lt (by omega)] at this
  exact this
theorem rootB_first (g : Nat) (s : List UInt8) (hs : s.length ≤ 490) : (rootB g s).take 8 = be g 8 := by
  rw [rootB_row g s hs]
  exact List.take_left' (be_length g 8)
theorem rootB_last (g : Nat) (s : List UInt8) (hs : s.length ≤ 490) : (rootB g s).drop 504 = be g 8 := by
  rw [rootB_row g s hs, ← List.append_assoc, ← List.append_assoc, ← List.append_assoc]
  exact List.drop_left' (by simp [be_length, zeros_length]; omega)

theorem torn {a b : Nat} {s t : List UInt8} {cut g : Nat} {u : List UInt8} (ha : a ≤ 4611686018427387904) (hb : b ≤ 4611686018427387904) (hs : s.length ≤ 490) (ht : t.length ≤ 490) (hab : a ≠ b)
    (hcut : cut ≤ 512) (h : rootL ((rootB a s).take cut ++ (rootB b t).drop cut) = some (g, u)) :
    (g = a ∧ (rootB a s).take cut ++ (rootB b t).drop cut = rootB a s) ∨ (g = b ∧ (rootB a s).take cut ++ (rootB b t).drop cut = rootB b t) := by
  obtain ⟨_, _, hg2, hu, hz⟩ := root_some h
  have hX := rootB_length a s
  have hY := rootB_length b t
  have hXf := rootB_first a s hs
  have hXl := rootB_last a s hs
  have hYf := rootB_first b t ht
  have hYl := rootB_last b t ht
  have hZf := rootB_first g u hu
  have hZl := rootB_last g u hu
  rw [hz] at hZf hZl
  generalize rootB a s = X at *
  generalize rootB b t = Y at *
  have hlt : (X.take cut).length = cut := by simp; omega
  by_cases h1 : cut ≤ 504
  · have e : (X.take cut ++ Y.drop cut).drop 504 = Y.drop 504 := by
      rw [List.drop_append, hlt, List.drop_drop, List.drop_eq_nil_of_le (by omega), List.nil_append]
      congr 1; omega
    rw [e, hYl] at hZl
    have hgb := be_inj8 hb hg2 hZl
    subst hgb
    by_cases h2 : 8 ≤ cut
    · exfalso
      have e2 : (X.take cut ++ Y.drop cut).take 8 = X.take 8 := by
        rw [List.take_append_of_le_length (by omega), List.take_take]
        congr 1; omega
      rw [e2, hXf] at hZf
      exact hab (be_inj8 ha hb hZf)
    · refine .inr ⟨rfl, ?_⟩
      have e3 : (X.take cut ++ Y.drop cut).drop 8 = Y.drop 8 := by
        rw [List.drop_append, hlt, List.drop_drop, List.drop_eq_nil_of_le (by omega), List.nil_append]
        congr 1; omega
      rw [← List.take_append_drop 8 (X.take cut ++ Y.drop cut), e3, hZf, ← hYf, List.take_append_drop]
  · have e2 : (X.take cut ++ Y.drop cut).take 8 = X.take 8 := by
      rw [List.take_append_of_le_length (by omega), List.take_take]
      congr 1; omega
    rw [e2, hXf] at hZf
    have hga := be_inj8 ha hg2 hZf
    subst hga
    refine .inl ⟨rfl, ?_⟩
    have e3 : (X.take cut ++ Y.drop cut).take 504 = X.take 504 := by
      rw [List.take_append_of_le_length (by omega), List.take_take]
      congr 1; omega
    rw [← List.take_append_drop 504 (X.take cut ++ Y.drop cut), e3, hZl, ← hXl, List.take_append_drop]

end Go.Proofs.Ytadhibemadgcoaa
