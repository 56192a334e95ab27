/- A drawn region that ends in stores: some cells are held all through (Ca), others till operation z, the first store, has come up (Cx). Conditions: as each theorem says. -/
import Derived.Test.YtadhibemadgcoaaBoG
import Derived.Deep.RegionHeld3
namespace Go.Proofs.Ytadhibemadgcoaa
open Go.RowKit

/-- What holds while the region runs: Ca; and Cx till z has come up. -/
def Jh (Ca Cx : World → Prop) (z : Nat) (listed : Array Bool) (w : World) : Prop := Ca w ∧ (listed.getD z true = true ∨ Cx w)
theorem Jh.all {Ca Cx : World → Prop} {z : Nat} {l : Array Bool} {w : World} (h1 : Ca w) (h2 : Cx w) : Jh Ca Cx z l w := ⟨h1, .inr h2⟩
theorem Jh.late {Ca Cx : World → Prop} {z : Nat} {l : Array Bool} {w : World} (h1 : Ca w) (h2 : l.getD z true = true) : Jh Ca Cx z l w := ⟨h1, .inl h2⟩

section
variable {P : Program} {ops : Array Oper} {Q : Exit → Act → World → Prop} {md : Region.Mode} {Ca Cx : World → Prop} {z : Nat}

def wpAnyJ (P : Program) (md : Region.Mode) (ops : Array Oper) (Q : Exit → Act → World → Prop) (Ca Cx : World → Prop) (z : Nat) : Nat → Array Bool → Act → World → Prop
  | 0, listed, a, w => Region.ready md ops listed = [] ∧ Q .normal a w
  | fuel + 1, listed, a, w =>
    (Region.ready md ops listed = [] → Q .normal a w) ∧
    ∀ i ∈ Region.ready md ops listed, wpOp P ops Q i (fun a' w' => Jh Ca Cx z (listed.setIfInBounds i true) w' ∧ wpAnyJ P md ops Q Ca Cx z fuel (listed.setIfInBounds i true) a' w') a w

theorem wpAny_of_J : ∀ (fuel : Nat) (listed : Array Bool) (a : Act) (w : World), wpAnyJ P md ops Q Ca Cx z fuel listed a w → wpAny P md ops Q fuel listed a w
  | 0, _, _, _, h => h
  | fuel + 1, _, _, _, h => ⟨h.1, fun i hi => wpOp_mono (fun a' w' h' => wpAny_of_J fuel _ a' w' h'.2) (h.2 i hi)⟩

theorem Jh.moved {l : Array Bool} {w : World} {i : Nat} (hz : i ≠ z) : Jh Ca Cx z (l.setIfInBounds i true) w ↔ Jh Ca Cx z l w := by
  unfold Jh
  rw [getD_set_ne true hz]

theorem wpAnyJ_first {C : World → Prop} {R : Array Bool → Prop} {i : Nat} {oi : Oper} {v : Value} (hi : ops[i]? = some oi) (hsel : ∀ (j : Nat) (o : Oper) cs b, ops[j]? = some o → o.op ≠ .select cs b)
    (hQ : ∀ c a w, Q (.panic c) (a.put oi.dst v) w → Q (.panic c) a w) (hz : i ≠ z) (hC : ∀ l w, R l → Jh Ca Cx z l w → C w)
    (hR : ∀ l j, R l → i ∈ Region.ready md ops l → j ∈ Region.ready md ops l → j ≠ i → R (l.setIfInBounds j true)) :
    ∀ (fuel : Nat) (listed : Array Bool) (a : Act) (w : World),
      (∀ j oj, ops[j]? = some oj → j ≠ i → listed.getD j true = false → (∀ e ∈ oj.after, Region.binds md e = true → e.on ≠ i) → oi.apart ops oj = true) →
      i ∈ Region.ready md ops listed → R listed → YieldsIf P ops C oi v a → Jh Ca Cx z listed w →
      wpAnyJ P md ops Q Ca Cx z fuel (listed.setIfInBounds i true) (a.put oi.dst v) w → wpAnyJ P md ops Q Ca Cx z (fuel + 1) listed a w := by
  intro fuel
  induction fuel with
  | zero =>
    intro listed a w _ hr hRl hy hS H
    refine ⟨fun h => (by rw [h] at hr; cases hr), fun j hj => ?_⟩
    by_cases hji : j = i
    · subst hji; exact hy.wpOp hi (hC _ _ hRl hS) ⟨(Jh.moved hz).2 hS, H⟩
    · have := ready_mono hj hji
      rw [H.1] at this
      cases this
  | succ fuel ih =>
    intro listed a w hfree hr hRl hy hS H
    refine ⟨fun h => (by rw [h] at hr; cases hr), fun j hj => ?_⟩
    by_cases hji : j = i
    · subst hji; exact hy.wpOp hi (hC _ _ hRl hS) ⟨(Jh.moved hz).2 hS, H⟩
    · have h1 := H.2 j (ready_mono hj hji)
      obtain ⟨hjun, oj, hoj, hall⟩ := mem_ready.1 hj
      have hnot : ∀ e ∈ oj.after, Region.binds md e = true → e.on ≠ i := fun e he hb heq => by
        have h1 := hall e he hb
        have h0 := (mem_ready.1 hr).1
        rw [heq] at h1
        rcases Nat.lt_or_ge i listed.size with h' | h'
        · simp [h'] at h0 h1; rw [h0] at h1; cases h1
        · simp [Array.getElem?_eq_none h'] at h1
      have h2 := wpOp_putIf hoj (hfree j oj hoj hji hjun hnot) (fun cs b => hsel i oi cs b hi) (fun cs b => hsel j oj cs b hoj) hQ hy h1
      have hfree' : ∀ k ok, ops[k]? = some ok → k ≠ i → (listed.setIfInBounds j true).getD k true = false →
          (∀ e ∈ ok.after, Region.binds md e = true → e.on ≠ i) → oi.apart ops ok = true := fun k ok hk hki hun hno => by
        refine hfree k ok hk hki ?_ hno
        by_cases hjk : j = k
        · subst hjk; exact hjun
        · rw [getD_set_ne true hjk] at hun; exact hun
      refine wpOp_mono (fun a' w' h3 => ?_) h2
      obtain ⟨h31, h32, h33⟩ := h3
      rw [Array.setIfInBounds_comm _ _ (Ne.symm hji)] at h32 h33
      have hJ : Jh Ca Cx z (listed.setIfInBounds j true) w' := (Jh.moved hz).1 h32
      exact ⟨hJ, ih (listed.setIfInBounds j true) a' w' hfree' (ready_mono hr (Ne.symm hji)) (hR _ _ hRl hr hj hji) h31 hJ h33⟩

/-- Taken first: it yields wherever Ca holds. -/
theorem wpAnyJ_take {i : Nat} {oi : Oper} {v : Value} {fuel : Nat} {listed : Array Bool} {a : Act} {w : World} (hi : ops[i]? = some oi)
    (hs : Region.noSelect ops = true) (hf : Region.free md ops listed i = true) (hr : (Region.ready md ops listed).contains i = true)
    (hQ : ∀ c a w, Q (.panic c) (a.put oi.dst v) w → Q (.panic c) a w) (hz : (i == z) = false) (hy : YieldsIf P ops Ca oi v a) (hS : Jh Ca Cx z listed w)
    (h : wpAnyJ P md ops Q Ca Cx z fuel (listed.setIfInBounds i true) (a.put oi.dst v) w) : wpAnyJ P md ops Q Ca Cx z (fuel + 1) listed a w :=
  have hz' : i ≠ z := fun e => by rw [e] at hz; simp at hz
  wpAnyJ_first (C := Ca) (R := fun _ => True) hi (Region.noSelect_spec hs) hQ hz' (fun _ _ _ h => h.1) (fun _ _ _ _ _ _ => trivial) fuel listed a w (Region.free_spec hi hf) (by simpa using hr) trivial hy hS h

/-- z waits for i. -/
def waitsFor (md : Region.Mode) (ops : Array Oper) (z i : Nat) : Bool := match ops[z]? with
  | some o => o.after.any fun e => Region.binds md e && e.on == i
  | none => false
theorem waits_spec {i : Nat} (h : waitsFor md ops z i = true) {l : Array Bool} (hi : i ∈ Region.ready md ops l) : z ∉ Region.ready md ops l := by
  intro hz
  obtain ⟨_, o, ho, hall⟩ := mem_ready.1 hz
  simp only [waitsFor, ho] at h
  obtain ⟨e, he, hb⟩ := Array.any_eq_true'.1 h
  simp only [Bool.and_eq_true, beq_iff_eq] at hb
  have h1 := hall e he hb.1
  have h0 := (mem_ready.1 hi).1
  rw [hb.2] at h1
  rcases Nat.lt_or_ge i l.size with h' | h'
  · simp [h'] at h0 h1; rw [h0] at h1; cases h1
  · simp [Array.getElem?_eq_none h'] at h1

/-- Taken first: it yields where Ca and Cx hold, and z waits for it. -/
theorem wpAnyJ_takeX {i : Nat} {oi : Oper} {v : Value} {fuel : Nat} {listed : Array Bool} {a : Act} {w : World} (hi : ops[i]? = some oi)
    (hs : Region.noSelect ops = true) (hf : Region.free md ops listed i = true) (hr : (Region.ready md ops listed).contains i = true)
    (hQ : ∀ c a w, Q (.panic c) (a.put oi.dst v) w → Q (.panic c) a w) (hz : (i == z) = false) (hl : listed.getD z true = false) (hw : waitsFor md ops z i = true) (hy : YieldsIf P ops (fun w => Ca w ∧ Cx w) oi v a) (hS : Jh Ca Cx z listed w)
    (h : wpAnyJ P md ops Q Ca Cx z fuel (listed.setIfInBounds i true) (a.put oi.dst v) w) : wpAnyJ P md ops Q Ca Cx z (fuel + 1) listed a w :=
  have hz' : i ≠ z := fun e => by rw [e] at hz; simp at hz
  wpAnyJ_first (C := fun w => Ca w ∧ Cx w) (R := fun l => l.getD z true = false) hi (Region.noSelect_spec hs) hQ hz' (fun l w hl h => ⟨h.1, h.2.resolve_left (by rw [hl]; simp)⟩)
    (fun l j hl hil hjl _ => by
      have hjz : j ≠ z := fun e => waits_spec hw hil (e ▸ hjl)
      rw [getD_set_ne true hjz]; exact hl) fuel listed a w (Region.free_spec hi hf) (by simpa using hr) hl hy hS h

/-- The one that comes up is carried out. -/
theorem wpAnyJ_one {i : Nat} {o : Oper} {fuel : Nat} {listed : Array Bool} {a : Act} {w : World} (hr : Region.ready md ops listed = [i]) (ho : ops[i]? = some o)
    (h : ∀ K' : Act → World → Prop, Shut (∀ a w, Jh Ca Cx z (listed.setIfInBounds i true) w → (Jh Ca Cx z (listed.setIfInBounds i true) w → wpAnyJ P md ops Q Ca Cx z fuel (listed.setIfInBounds i true) a w) → K' a w) → if Region.wanted o (yielded ops a.tmps) = true then Oper.wp P o a w K' Q else K' (a.put o.dst undef) w) :
    wpAnyJ P md ops Q Ca Cx z (fuel + 1) listed a w :=
  ⟨fun h0 => by rw [hr] at h0; simp at h0, by
    rw [hr]
    intro j hj
    obtain rfl : j = i := by simpa using hj
    exact wpOp_step ho (fun K' hK => h K' (fun a w hS hW => hK a w ⟨hS, hW hS⟩))⟩

theorem wpAnyJ_done {listed : Array Bool} {a : Act} {w : World} (hr : Region.ready md ops listed = []) (h : Q .normal a w) :
    ∀ fuel, wpAnyJ P md ops Q Ca Cx z fuel listed a w
  | 0 => ⟨hr, h⟩
  | _ + 1 => ⟨fun _ => h, by rw [hr]; simp⟩

theorem wp_region_J {id : Nat} {a : Act} {w : World} (hm : P.follows .mixedOrders = true)
    (h : wpAnyJ P .any ops Q Ca Cx z ops.size (Array.replicate ops.size false) a w.drew) : (Code.region id ops true).wp P Q a w :=
  wp_region_any hm (wpAny_of_J _ _ _ _ h)
end

end Go.Proofs.Ytadhibemadgcoaa
