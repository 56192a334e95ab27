/- What Use answers; a map of ints to bools in memory. Conditions: as each lemma says. -/
import Derived.Test.YtadhibemadgcoaaPgX
namespace Go.Proofs.Ytadhibemadgcoaa
open Go.RowKit Go.MapKept Go.Maps

theorem plainElem_bool_inv {P : Program} {e : TypeId} (he : P.underlying e = some .bool) {v : Value} {z : DataW Unit × List MemPlace} (h : plainElem P e v = some z) : ∃ x, v = .bool x ∧ z = (.lit (.bool x), []) := by
  unfold plainElem at h
  rw [he] at h
  cases v <;> simp at h
  exact ⟨_, rfl, h.symm⟩
/-- A map of ints to bools in memory: those that are true. -/
def MetW (w : World) (mb n : Nat) (met : List Int) : Prop :=
  ∃ D : DataW Unit, w.ownsMap Try.prog 3 (plainElem Try.prog 4) mb n D ∧ Maps.IsMap D ∧
    ∀ g : Int, (Lit.int .i64 g).wf = true → D.atKey (.int .i64 g) (.lit (.bool false)) = .lit (.bool (decide (g ∈ met)))
theorem MetW.made (w : World) : MetW (w.alloc (.map #[] 0)) w.heap.size 0 [] :=
  ⟨.map [], World.ownsMap_made w _ _ _, ⟨_, rfl⟩, fun _ _ => rfl⟩
theorem MetW.lt {w : World} {mb n : Nat} {met : List Int} (h : MetW w mb n met) : mb < w.heap.size := by obtain ⟨D, h, _⟩ := h; exact h.lt
theorem MetW.frame {w w' : World} {mb n : Nat} {met : List Int} (h : MetW w mb n met) (hb : w'.heap[mb]? = w.heap[mb]?) : MetW w' mb n met := by
  obtain ⟨D, ⟨es, clock, h1, r⟩, h⟩ := h
  exact ⟨D, ⟨es, clock, hb.trans h1, r⟩, h⟩
theorem Try.zero4 (w : World) : (zeroValue 4).run Try.prog w = .ok (.bool false) w := by kernel_rfl
theorem MetW.ask {w : World} {mb n : Nat} {met : List Int} (hp : MetW w mb n met) (g : Int) (hw : (Lit.int .i64 g).wf = true) : (Instr.lookup 157 (.map (some mb)) (.int .i64 g) false).run Try.prog w = .ok (.bool (decide (g ∈ met))) w := by
  obtain ⟨D, h1, _, h3⟩ := hp
  obtain ⟨v, ps, hrun, hv⟩ := h1.lookup (int_keyed Try.underlying3) Try.underlying157 (Try.zero4 w) (plainElem_bool Try.underlying4 false) (keyOf_int_mk Try.underlying3 hw)
  obtain ⟨x, rfl, hx⟩ := plainElem_bool_inv Try.underlying4 hv
  rw [h3 g hw] at hx
  simp only [Prod.mk.injEq, DataW.lit.injEq, Lit.bool.injEq] at hx
  rw [hrun, hx.1]
theorem MetW.put {w : World} {mb n : Nat} {met : List Int} (hp : MetW w mb n met) (hn : n < maxLen) (g : Int) (hw : (Lit.int .i64 g).wf = true) :
    ∃ w', (Instr.mapUpdate 157 (.map (some mb)) (.int .i64 g) (.bool true)).run Try.prog w = .ok () w' ∧ MetW w' mb (n + 1) (met ++ [g]) ∧ Ch (fun k => k = mb) w w' := by
  obtain ⟨D, h1, h2, h3⟩ := hp
  have K := int_keyed (P := Try.prog) Try.underlying3
  have hkey := keyOf_int_mk (P := Try.prog) Try.underlying3 hw
  obtain ⟨w', r1, r2, r3⟩ := h1.update K Try.underlying157 hn hkey (plainElem_bool Try.underlying4 true)
  refine ⟨w', r1, ⟨_, r2, ?_, fun k hk => ?_⟩, (Ch.refl _ w).grown r3 (fun q hq _ => by cases hq; rfl)⟩
  · obtain ⟨es, rfl⟩ := h2; exact ⟨_, rfl⟩
  · by_cases hkg : k = g
    · subst hkg
      rw [atKey_put_same h2 (K.key hkey)]
      simp
    · have hne : (Lit.int .i64 k) ≠ Lit.int .i64 g := by intro e; cases e; exact hkg rfl
      rw [atKey_put_other hne, h3 k hk]
      simp [hkg]

/-- Which error Use answers. -/
def useS (p : Pg) : List Int → List Int → Nat
  | _, [] => 0
  | met, x :: l => if hasP p x = false then 3 else if (p.pages.getD x.toNat (0, 0)).1 ≠ 0 then 8 else if x ∈ met then 8 else useS p (met ++ [x]) l
def use1 (pg : List (Nat × Nat)) (x : Int) : List (Nat × Nat) := pg.set x.toNat (1, (pg.getD x.toNat (0, 0)).2)
def useP (p : Pg) (l : List Int) : Nat × Pg :=
  if p.dead = true then (9, p) else if useS p [] l ≠ 0 then (useS p [] l, p) else (0, { p with pages := l.foldl use1 p.pages })
theorem useS_has {p : Pg} : ∀ (l met : List Int), useS p met l = 0 → ∀ x ∈ l, hasP p x = true := by
  intro l
  induction l with
  | nil => intro met h x hx; cases hx
  | cons y l ih =>
    intro met h x hx
    unfold useS at h
    by_cases h1 : hasP p y = false
    · rw [if_pos h1] at h; cases h
    · rw [if_neg h1] at h
      by_cases h2 : (p.pages.getD y.toNat (0, 0)).1 ≠ 0
      · rw [if_pos h2] at h; cases h
      · rw [if_neg h2] at h
        by_cases h3 : y ∈ met
        · rw [if_pos h3] at h; cases h
        · rw [if_neg h3] at h
          rcases List.mem_cons.1 hx with rfl | hx
          · simpa using h1
          · exact ih _ h x hx
theorem useS_step {p : Pg} {l : List Int} {j : Nat} {x : Int} (hx : l[j]? = some x) : useS p (l.take j) (l.drop j) = if hasP p x = false then 3 else if (p.pages.getD x.toNat (0, 0)).1 ≠ 0 then 8 else if x ∈ l.take j then 8 else useS p (l.take (j + 1)) (l.drop (j + 1)) := by
  obtain ⟨hj, e⟩ := List.getElem?_eq_some_iff.1 hx
  rw [List.drop_eq_getElem_cons hj, List.take_add_one, hx, ← e]
  rfl
theorem use1_len (pg : List (Nat × Nat)) (x : Int) : (use1 pg x).length = pg.length := by unfold use1; simp
theorem useL_len (l : List Int) : ∀ pg : List (Nat × Nat), (l.foldl use1 pg).length = pg.length := by
  induction l with
  | nil => intro pg; rfl
  | cons x l ih => intro pg; rw [List.foldl_cons, ih, use1_len]
theorem useL_step {l : List Int} {j : Nat} {x : Int} (hx : l[j]? = some x) (pg : List (Nat × Nat)) : (l.take (j + 1)).foldl use1 pg = use1 ((l.take j).foldl use1 pg) x := by
  rw [List.take_add_one, hx, Option.toList_some, List.foldl_append]; rfl

end Go.Proofs.Ytadhibemadgcoaa
