/- Cells that are kept over a step. Conditions: as each theorem says. -/
import Derived.Test.YtadhibemadgcoaaBoH
namespace Go.Proofs.Ytadhibemadgcoaa
open Go.RowKit

theorem keep3 {S : Nat → Prop} {w w' : World} {b c : Nat} {v0 v1 v2 : Value} (h : w.cell? ⟨b, 0, none⟩ = some v0 ∧ w.cell? ⟨b, 2, none⟩ = some v1 ∧ w.cell? ⟨c, 1, none⟩ = some v2) (hc : Ch S w w') (hn : ∀ q, q = b → ¬ S q) (hm : ∀ q, q = c → ¬ S q) :
    w'.cell? ⟨b, 0, none⟩ = some v0 ∧ w'.cell? ⟨b, 2, none⟩ = some v1 ∧ w'.cell? ⟨c, 1, none⟩ = some v2 :=
  ⟨cell_ch2 h.1 hc (hn _ rfl), cell_ch2 h.2.1 hc (hn _ rfl), cell_ch2 h.2.2 hc (hm _ rfl)⟩
theorem keep7 {S : Nat → Prop} {w w' : World} {b c : Nat} {v0 v1 v2 v3 v4 v5 v6 : Value} (h : w.cell? ⟨b, 1, none⟩ = some v0 ∧ w.cell? ⟨b, 3, none⟩ = some v1 ∧ w.cell? ⟨c, 0, none⟩ = some v2 ∧ w.cell? ⟨c, 1, none⟩ = some v3 ∧ w.cell? ⟨c, 2, none⟩ = some v4 ∧ w.cell? ⟨c, 3, none⟩ = some v5 ∧ w.cell? ⟨c, 4, none⟩ = some v6) (hc : Ch S w w') (hb : ∀ q, q = b → ¬ S q) (hm : ∀ q, q = c → ¬ S q) :
    w'.cell? ⟨b, 1, none⟩ = some v0 ∧ w'.cell? ⟨b, 3, none⟩ = some v1 ∧ w'.cell? ⟨c, 0, none⟩ = some v2 ∧ w'.cell? ⟨c, 1, none⟩ = some v3 ∧ w'.cell? ⟨c, 2, none⟩ = some v4 ∧ w'.cell? ⟨c, 3, none⟩ = some v5 ∧ w'.cell? ⟨c, 4, none⟩ = some v6 :=
  ⟨cell_ch2 h.1 hc (hb _ rfl), cell_ch2 h.2.1 hc (hb _ rfl), cell_ch2 h.2.2.1 hc (hm _ rfl), cell_ch2 h.2.2.2.1 hc (hm _ rfl), cell_ch2 h.2.2.2.2.1 hc (hm _ rfl), cell_ch2 h.2.2.2.2.2.1 hc (hm _ rfl), cell_ch2 h.2.2.2.2.2.2 hc (hm _ rfl)⟩
theorem keep9 {S : Nat → Prop} {w w' : World} {b c r : Nat} {v0 v1 v2 v3 v4 v5 v6 u0 u1 : Value} (h : (w.cell? ⟨b, 1, none⟩ = some v0 ∧ w.cell? ⟨b, 3, none⟩ = some v1 ∧ w.cell? ⟨c, 0, none⟩ = some v2 ∧ w.cell? ⟨c, 1, none⟩ = some v3 ∧ w.cell? ⟨c, 2, none⟩ = some v4 ∧ w.cell? ⟨c, 3, none⟩ = some v5 ∧ w.cell? ⟨c, 4, none⟩ = some v6) ∧ w.cell? ⟨r, 1, none⟩ = some u0 ∧ w.cell? ⟨r, 2, none⟩ = some u1) (hc : Ch S w w') (hb : ∀ q, q = b → ¬ S q) (hm : ∀ q, q = c → ¬ S q) (hr : ∀ q, q = r → ¬ S q) :
    (w'.cell? ⟨b, 1, none⟩ = some v0 ∧ w'.cell? ⟨b, 3, none⟩ = some v1 ∧ w'.cell? ⟨c, 0, none⟩ = some v2 ∧ w'.cell? ⟨c, 1, none⟩ = some v3 ∧ w'.cell? ⟨c, 2, none⟩ = some v4 ∧ w'.cell? ⟨c, 3, none⟩ = some v5 ∧ w'.cell? ⟨c, 4, none⟩ = some v6) ∧ w'.cell? ⟨r, 1, none⟩ = some u0 ∧ w'.cell? ⟨r, 2, none⟩ = some u1 :=
  ⟨keep7 h.1 hc hb hm, cell_ch2 h.2.1 hc (hr _ rfl), cell_ch2 h.2.2 hc (hr _ rfl)⟩

end Go.Proofs.Ytadhibemadgcoaa
