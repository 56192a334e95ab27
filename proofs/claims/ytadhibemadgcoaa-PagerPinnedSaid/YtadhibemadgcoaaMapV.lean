/- A map whose keys are ints, as a function from keys to values: asked, written. Conditions: the key is an int; fewer entries than an int can count. -/
import Derived.Test.YtadhibemadgcoaaBase2
import Derived.Maps.Own
import Derived.Maps.Views
namespace Go.Proofs.Ytadhibemadgcoaa
open Go.RowKit Go.MapKept

/-- A value, read as itself. -/
def RV (v : Value) : Option (DataW Value × List MemPlace) := some (.held v, [])
/-- Block b is a map of at most n entries; what it answers at each key: f; what is not there: z. -/
def MapAt (P : Program) (kt : TypeId) (w : World) (b n : Nat) (z : Value) (f : Int → Value) : Prop :=
  ∃ D : DataW Value, w.ownsMap P kt RV b n D ∧ Maps.IsMap D ∧ ∀ k : Int, (Lit.int .i64 k).wf = true → D.atKey (.int .i64 k) (.held z) = .held (f k)

section
variable {P : Program} {kt : TypeId} {w w' : World} {b n : Nat} {z : Value} {f : Int → Value}
theorem MapAt.made (P : Program) (kt : TypeId) (w : World) (z : Value) : MapAt P kt (w.alloc (.map #[] 0)) w.heap.size 0 z (fun _ => z) :=
  ⟨.map [], World.ownsMap_made w P kt RV, ⟨_, rfl⟩, fun _ _ => rfl⟩
theorem MapAt.lt (h : MapAt P kt w b n z f) : b < w.heap.size := by obtain ⟨D, h, _⟩ := h; exact h.lt
theorem MapAt.mono {m : Nat} (h : MapAt P kt w b n z f) (hm : n ≤ m) : MapAt P kt w b m z f := by obtain ⟨D, h, r⟩ := h; exact ⟨D, h.mono hm, r⟩
theorem MapAt.frame (h : MapAt P kt w b n z f) (hb : w'.heap[b]? = w.heap[b]?) : MapAt P kt w' b n z f := by
  obtain ⟨D, ⟨es, clock, h1, r⟩, h⟩ := h
  exact ⟨D, ⟨es, clock, hb.trans h1, r⟩, h⟩
theorem MapAt.ch {S : Nat → Prop} (h : MapAt P kt w b n z f) (hc : Ch S w w') (hn : ¬ S b) : MapAt P kt w' b n z f := h.frame (hc.block b h.lt hn)
theorem MapAt.lookup {t e : TypeId} (h : MapAt P kt w b n z f) (hk : P.underlying kt = some (.int .i64)) (ht : P.underlying t = some (.map kt e)) (hz : (zeroValue e).run P w = .ok z w) (k : Int) (hw : (Lit.int .i64 k).wf = true) :
    (Instr.lookup t (.map (some b)) (.int .i64 k) false).run P w = .ok (f k) w := by
  obtain ⟨D, h, _, hf⟩ := h
  obtain ⟨v, ps, hrun, hR⟩ := h.lookup (Maps.int_keyed hk) ht hz (zd := .held z) (zp := []) rfl (Maps.keyOf_int_mk hk hw)
  rw [hf k hw] at hR
  simp only [RV, Option.some.injEq, Prod.mk.injEq, DataW.held.injEq] at hR
  rw [hrun, hR.1]
theorem MapAt.update {t e : TypeId} (h : MapAt P kt w b n z f) (hk : P.underlying kt = some (.int .i64)) (ht : P.underlying t = some (.map kt e)) (hn : n < maxLen) (k : Int) (hw : (Lit.int .i64 k).wf = true) (v : Value) :
    ∃ w', (Instr.mapUpdate t (.map (some b)) (.int .i64 k) v).run P w = .ok () w' ∧ MapAt P kt w' b (n + 1) z (fun q => if q = k then v else f q) ∧ Ch (fun q => q = b) w w' := by
  obtain ⟨D, h, hm, hf⟩ := h
  have K := Maps.int_keyed hk
  have hkey := Maps.keyOf_int_mk hk hw
  obtain ⟨w', r1, r2, r3⟩ := h.update K ht hn (val := v) hkey (d := .held v) (ps := []) rfl
  refine ⟨w', r1, ⟨_, r2, ?_, fun q hq => ?_⟩, (Ch.refl _ w).grown r3 (fun q hq _ => by cases hq; rfl)⟩
  · obtain ⟨es, rfl⟩ := hm; exact ⟨_, rfl⟩
  · by_cases hqk : q = k
    · subst hqk
      simp only [if_true]
      exact Maps.atKey_put_same hm (K.key hkey) _ _
    · simp only [if_neg hqk]
      rw [← hf q hq]
      exact Maps.atKey_put_other (by intro e; cases e; exact hqk rfl) _ _
end

theorem int_wf {k : Int} (h1 : -9223372036854775808 ≤ k) (h2 : k ≤ 9223372036854775807) : (Lit.int .i64 k).wf = true := by
  simp only [Lit.wf, Bool.and_eq_true, decide_eq_true_eq]
  have e1 : IntKind.i64.min = -9223372036854775808 := by decide
  have e2 : IntKind.i64.max = 9223372036854775807 := by decide
  rw [e1, e2]
  exact ⟨h1, h2⟩

end Go.Proofs.Ytadhibemadgcoaa
