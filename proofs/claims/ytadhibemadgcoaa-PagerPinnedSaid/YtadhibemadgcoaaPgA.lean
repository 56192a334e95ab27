/- A pager as a plain value, how it lies in memory; its pins' map; its small calls. Conditions: as each theorem says. -/
import Derived.Test.YtadhibemadgcoaaDiskK
import Derived.Test.YtadhibemadgcoaaDiskM
import Derived.Test.YtadhibemadgcoaaPageF
import Derived.Test.YtadhibemadgcoaaMapV
import Derived.Maps.OwnSet
import Derived.Maps.RangeWalk
namespace Go.Proofs.Ytadhibemadgcoaa
open Go.RowKit Go.MapKept

/-- A pager: its disk, gen, root, pages (state, the gen for which it waits), pins, is it dead; ops: a bound on the pins' entries. -/
structure Pg where
  d : Dk
  gen : Nat
  root : List UInt8
  pages : List (Nat × Nat)
  pins : List Nat
  dead : Bool
  ops : Nat

/-- How often a gen is pinned. -/
def cnt (pins : List Nat) (g : Int) : Nat := (pins.filter fun (x : Nat) => (x : Int) == g).length
/-- The pins in memory: a map. -/
def PinAt (w : World) (mb n : Nat) (pins : List Nat) : Prop :=
  ∃ D : DataW Unit, w.ownsMap Try.prog 3 (plainElem Try.prog 3) mb n D ∧ Maps.IsMap D ∧
    ∀ g : Int, (Lit.int .i64 g).wf = true → D.atKey (.int .i64 g) (.lit (.int .i64 0)) = .lit (.int .i64 (cnt pins g : Int)) ∧ Maps.has D (.int .i64 g) = decide (cnt pins g ≠ 0)
theorem PinAt.lt {w : World} {mb n : Nat} {pins : List Nat} (h : PinAt w mb n pins) : mb < w.heap.size := by obtain ⟨D, h, _⟩ := h; exact h.lt
theorem PinAt.frame {w w' : World} {mb n : Nat} {pins : List Nat} (h : PinAt w mb n pins) (hb : w'.heap[mb]? = w.heap[mb]?) : PinAt w' mb n pins := by
  obtain ⟨D, ⟨es, clock, h1, r⟩, h⟩ := h
  exact ⟨D, ⟨es, clock, hb.trans h1, r⟩, h⟩
theorem PinAt.made (w : World) : PinAt (w.alloc (.map #[] 0)) w.heap.size 0 [] :=
  ⟨.map [], World.ownsMap_made w _ _ _, ⟨_, rfl⟩, fun g _ => ⟨rfl, by simp [cnt]; rfl⟩⟩

def pgCells (l : List (Nat × Nat)) : List Value := l.flatMap fun x => [.int .i64 (x.1 : Int), .int .i64 (x.2 : Int)]
theorem pgCells_length (l : List (Nat × Nat)) : (pgCells l).length = l.length * 2 := by
  induction l with
  | nil => rfl
  | cons x l ih => show (_ :: _ :: pgCells l).length = _; simp [ih]; omega
theorem pgCells_get (l : List (Nat × Nat)) : ∀ (j : Nat) (x : Nat × Nat), l[j]? = some x → (pgCells l)[j * 2]? = some (.int .i64 (x.1 : Int)) ∧ (pgCells l)[j * 2 + 1]? = some (.int .i64 (x.2 : Int)) := by
  induction l with
  | nil => intro j x h; simp at h
  | cons y l ih =>
    intro j x h
    have e : pgCells (y :: l) = .int .i64 (y.1 : Int) :: .int .i64 (y.2 : Int) :: pgCells l := by simp [pgCells]
    rw [e]
    cases j with
    | zero => simp at h; subst h; exact ⟨rfl, rfl⟩
    | succ j =>
      have := ih j x (by simpa using h)
      rw [show (j + 1) * 2 = j * 2 + 1 + 1 by omega]
      exact this
theorem pgCells_set (l : List (Nat × Nat)) : ∀ (j : Nat) (x : Nat × Nat), pgCells (l.set j x) = ((pgCells l).set (j * 2) (.int .i64 (x.1 : Int))).set (j * 2 + 1) (.int .i64 (x.2 : Int)) := by
  induction l with
  | nil => intro j x; rfl
  | cons y l ih =>
    intro j x
    have e : ∀ y l, pgCells (y :: l) = .int .i64 ((y : Nat × Nat).1 : Int) :: .int .i64 (y.2 : Int) :: pgCells l := fun y l => by simp [pgCells]
    cases j with
    | zero => rw [List.set_cons_zero, e, e]; rfl
    | succ j =>
      rw [List.set_cons_succ, e, e, ih, show (j + 1) * 2 = j * 2 + 1 + 1 by omega, show j * 2 + 1 + 1 + 1 = (j * 2 + 1) + 1 + 1 by omega]
      rfl

/-- How a pager lies in memory. -/
structure PgIn (w : World) (pp dp gb mb : Nat) (p : Pg) : Prop where
  n1 : 4 ≤ p.pages.length
  n2 : p.pages.length ≤ 4096
  gen : p.gen ≤ 4611686018427387904
  pg : ∀ x ∈ p.pages, x.2 ≤ 4611686018427387904
  pn : ∀ g ∈ p.pins, g ≤ 4611686018427387904
  pc : p.pins.length ≤ p.ops
  hp : w.heap[pp]? = some (.cells #[.pointer (some ⟨dp, 0, none⟩), .int .i64 (p.gen : Int), .string ⟨p.root.toArray⟩, .slice (some ⟨gb, 0, none⟩) p.pages.length p.pages.length, .map (some mb), .bool p.dead] 153 (0, 0))
  hg : w.heap[gb]? = some (.cells (pgCells p.pages).toArray 155 (0, 0))
  hm : PinAt w mb p.ops p.pins
/-- The pager p lies at block pp, its disk at dp; M, F: the disk's blocks; O: the pager's own. -/
def PgX (w : World) (pp dp gb mb : Nat) (p : Pg) (M F O : Nat → Prop) : Prop :=
  PgIn w pp dp gb mb p ∧ DiskAt w dp p.d M F ∧ p.pages.length = p.d.L.length ∧ O pp ∧ O gb ∧ O mb ∧ ∀ k, O k → ¬ F k ∧ k < w.heap.size
def PgAt (w : World) (pp dp : Nat) (p : Pg) (M F O : Nat → Prop) : Prop := ∃ gb mb, PgX w pp dp gb mb p M F O

theorem PgIn.frame {w w' : World} {pp dp gb mb : Nat} {p : Pg} (h : PgIn w pp dp gb mb p) (h1 : w'.heap[pp]? = w.heap[pp]?) (h2 : w'.heap[gb]? = w.heap[gb]?) (h3 : w'.heap[mb]? = w.heap[mb]?) : PgIn w' pp dp gb mb p :=
  ⟨h.n1, h.n2, h.gen, h.pg, h.pn, h.pc, h1.trans h.hp, h2.trans h.hg, h.hm.frame h3⟩
theorem PgAt.ch {S : Nat → Prop} {w w' : World} {pp dp : Nat} {p : Pg} {M F O : Nat → Prop} (h : PgAt w pp dp p M F O) (hc : Ch S w w') (hf : ∀ k, F k → ¬ S k) (ho : ∀ k, O k → ¬ S k) : PgAt w' pp dp p M F O := by
  obtain ⟨gb, mb, h1, h2, h3, h4, h5, h6, h7⟩ := h
  exact ⟨gb, mb, h1.frame (hc.block _ (h7 _ h4).2 (ho _ h4)) (hc.block _ (h7 _ h5).2 (ho _ h5)) (hc.block _ (h7 _ h6).2 (ho _ h6)), h2.ch hc hf, h3, h4, h5, h6, fun k hk => ⟨(h7 k hk).1, Nat.lt_of_lt_of_le (h7 k hk).2 hc.size⟩⟩
/-- The disk alone has turned. -/
theorem PgAt.disk {w w' : World} {pp dp : Nat} {p : Pg} {M F O M' F' : Nat → Prop} {d' : Dk} (h : PgAt w pp dp p M F O) (hc : Ch M w w') (hd : DiskAt w' dp d' M' F') (hl : d'.L.length = p.d.L.length) (hF : ∀ k, F' k → F k ∨ w.heap.size ≤ k) : PgAt w' pp dp { p with d := d' } M' F' O := by
  obtain ⟨gb, mb, h1, h2, h3, h4, h5, h6, h7⟩ := h
  have hMF : ∀ k, M k → F k := by obtain ⟨_, _, _, _, _, _, _, _, h4, _⟩ := h2; exact h4
  have ho : ∀ k, O k → w'.heap[k]? = w.heap[k]? := fun k hk => hc.block k (h7 k hk).2 (fun hm => (h7 k hk).1 (hMF k hm))
  have h1' := h1.frame (ho _ h4) (ho _ h5) (ho _ h6)
  exact ⟨gb, mb, ⟨h1'.n1, h1'.n2, h1'.gen, h1'.pg, h1'.pn, h1'.pc, h1'.hp, h1'.hg, h1'.hm⟩, hd, h3.trans hl.symm, h4, h5, h6, fun k hk => ⟨fun hf => by
    rcases hF k hf with h | h
    · exact (h7 k hk).1 h
    · have := (h7 k hk).2; omega, Nat.lt_of_lt_of_le (h7 k hk).2 hc.size⟩⟩
theorem PgAt.facts {w : World} {pp dp : Nat} {p : Pg} {M F O : Nat → Prop} (h : PgAt w pp dp p M F O) : 4 ≤ p.pages.length ∧ p.pages.length ≤ 4096 ∧ p.gen ≤ 4611686018427387904 ∧ p.pages.length = p.d.L.length ∧ DiskAt w dp p.d M F ∧ (∀ k, M k → F k) ∧ (∀ k, O k → ¬ F k ∧ k < w.heap.size) ∧ O pp := by
  obtain ⟨gb, mb, h1, h2, h3, h4, h5, h6, h7⟩ := h
  exact ⟨h1.n1, h1.n2, h1.gen, h3, h2, by obtain ⟨_, _, _, _, _, _, _, _, h4, _⟩ := h2; exact h4, h7, h4⟩

/-! The small calls. -/
theorem no3_any (x : Int) (w : World) : Calls Try.prog 55 #[.int .i64 x] w fun e w' => e = .returned (.int .i64 x) ∧ w = w' := by
  go_enter Try.func55, Try.ntmps55
  go_wp2
  go_ret
  exact ⟨rfl, rfl⟩
theorem fit_none (w : World) : Calls Try.prog 94 #[.pointer none] w fun e w' => e = .returned (.int .i64 1) ∧ w = w' := by
  go_enter Try.func94, Try.ntmps94
  go_wp2_with (go_at_call 44; refine (size_none _).mono ?_; rintro e w' ⟨rfl, rfl⟩)
  go_ret
  exact ⟨rfl, rfl⟩
def fitE (n : Nat) : Nat := if n < 4 then 2 else 0
theorem fit_any {p : Nat} {d : Dk} {M F : Nat → Prop} (w : World) (h : DiskAt w p d M F) : Calls Try.prog 94 #[.pointer (some ⟨p, 0, none⟩)] w fun e w' => e = .returned (.int .i64 (fitE d.L.length : Nat)) ∧ w = w' := by
  have hs := h.sane
  have hz := size_any w h
  obtain ⟨n, HN⟩ : ∃ n, Hid (d.L.length = n) := ⟨_, hid rfl⟩
  rw [HN.out] at hz ⊢
  have h1 := hs.n1
  rw [HN.out] at h1
  have HZ := hid hz
  have hb : ((n : Int) == 0) = false := by rw [beq_eq_false_iff_ne]; omega
  clear h hs hz
  unfold fitE
  by_cases h4 : n < 4
  · rw [if_pos h4]
    have h4i : (n : Int) < 4 := by omega
    clear h4
    go_enter Try.func94, Try.ntmps94
    go_wp2_with (go_at_call 44; refine HZ.out.mono ?_; rintro e w' ⟨rfl, rfl⟩)
    go_ret
    exact ⟨rfl, rfl⟩
  · rw [if_neg h4]
    have h4i : ¬ (n : Int) < 4 := by omega
    clear h4
    go_enter Try.func94, Try.ntmps94
    go_wp2_with (go_at_call 44; refine HZ.out.mono ?_; rintro e w' ⟨rfl, rfl⟩)
    go_ret
    exact ⟨rfl, rfl⟩

theorem ready_none (w : World) : Calls Try.prog 98 #[.pointer none] w fun e w' => e = .returned (.int .i64 1) ∧ w = w' := by
  go_enter Try.func98, Try.ntmps98
  go_wp2
  go_ret
  exact ⟨rfl, rfl⟩
def readyE (b : Bool) : Nat := if b = true then 9 else 0
theorem ready_any {pp dp : Nat} {p : Pg} {M F O : Nat → Prop} (w : World) (h : PgAt w pp dp p M F O) : Calls Try.prog 98 #[.pointer (some ⟨pp, 0, none⟩)] w fun e w' => e = .returned (.int .i64 (readyE p.dead : Nat)) ∧ w = w' := by
  obtain ⟨gb, mb, h1, -⟩ := h
  have c0 := cell_blk h1.hp 0
  have c5 := cell_blk h1.hp 5
  simp at c0 c5
  clear h1
  cases hd : p.dead with
  | true =>
    rw [hd] at c5
    clear hd
    go_enter Try.func98, Try.ntmps98
    go_wp2
    go_ret
    exact ⟨rfl, rfl⟩
  | false =>
    rw [hd] at c5
    clear hd
    go_enter Try.func98, Try.ntmps98
    go_wp2
    go_ret
    exact ⟨rfl, rfl⟩
theorem gen_none (w : World) : Calls Try.prog 62 #[.pointer none] w fun e w' => e = .returned (.int .i64 0) ∧ w = w' := by
  go_enter Try.func62, Try.ntmps62
  go_wp2
  go_ret
  exact ⟨rfl, rfl⟩
theorem gen_any {pp dp : Nat} {p : Pg} {M F O : Nat → Prop} (w : World) (h : PgAt w pp dp p M F O) : Calls Try.prog 62 #[.pointer (some ⟨pp, 0, none⟩)] w fun e w' => e = .returned (.int .i64 (p.gen : Int)) ∧ w = w' := by
  obtain ⟨gb, mb, h1, -⟩ := h
  have c1 := cell_blk h1.hp 1
  simp at c1
  clear h1
  go_enter Try.func62, Try.ntmps62
  go_wp2
  go_ret
  exact ⟨rfl, rfl⟩
theorem root_none (w : World) : Calls Try.prog 63 #[.pointer none] w fun e w' => e = .returned (.string ⟨#[]⟩) ∧ w = w' := by
  go_enter Try.func63, Try.ntmps63
  go_wp2
  go_ret
  exact ⟨rfl, rfl⟩
theorem root_any {pp dp : Nat} {p : Pg} {M F O : Nat → Prop} (w : World) (h : PgAt w pp dp p M F O) : Calls Try.prog 63 #[.pointer (some ⟨pp, 0, none⟩)] w fun e w' => e = .returned (.string ⟨p.root.toArray⟩) ∧ w = w' := by
  obtain ⟨gb, mb, h1, -⟩ := h
  have c2 := cell_blk h1.hp 2
  simp at c2
  clear h1
  go_enter Try.func63, Try.ntmps63
  go_wp2
  go_ret
  exact ⟨rfl, rfl⟩
def hasP (p : Pg) (n : Int) : Bool := decide (2 ≤ n) && decide (n < p.pages.length)
theorem has_any {pp dp : Nat} {p : Pg} {M F O : Nat → Prop} (n : Int) (w : World) (h : PgAt w pp dp p M F O) : Calls Try.prog 101 #[.pointer (some ⟨pp, 0, none⟩), .int .i64 n] w fun e w' => e = .returned (.bool (hasP p n)) ∧ w = w' := by
  obtain ⟨gb, mb, h1, -⟩ := h
  have c3 := cell_blk h1.hp 3
  simp at c3
  have n2 := h1.n2
  clear h1
  unfold hasP
  by_cases h2 : 2 ≤ n
  · by_cases h3 : n < p.pages.length
    · rw [decide_eq_true h2, decide_eq_true h3]
      go_enter Try.func101, Try.ntmps101
      go_wp2
      go_ret
      exact ⟨rfl, rfl⟩
    · rw [decide_eq_true h2, decide_eq_false h3]
      go_enter Try.func101, Try.ntmps101
      go_wp2
      go_ret
      exact ⟨rfl, rfl⟩
  · rw [decide_eq_false h2]
    go_enter Try.func101, Try.ntmps101
    go_wp2
    go_ret
    exact ⟨by simp, rfl⟩

/-- The pager's own six cells turned. -/
theorem PgAt.head {w w' : World} {pp dp gb mb : Nat} {p : Pg} {M F O : Nat → Prop} (h1 : PgIn w pp dp gb mb p) (h2 : DiskAt w dp p.d M F) (h3 : p.pages.length = p.d.L.length) (h4 : O pp) (h5 : O gb) (h6 : O mb) (h7 : ∀ k, O k → ¬ F k ∧ k < w.heap.size)
    (gen : Nat) (root : List UInt8) (dead : Bool) (hgen : gen ≤ 4611686018427387904)
    (hp : w'.heap[pp]? = some (.cells #[.pointer (some ⟨dp, 0, none⟩), .int .i64 (gen : Int), .string ⟨root.toArray⟩, .slice (some ⟨gb, 0, none⟩) p.pages.length p.pages.length, .map (some mb), .bool dead] 153 (0, 0)))
    (hk : ∀ k, k ≠ pp → w'.heap[k]? = w.heap[k]?) (hz : w.heap.size ≤ w'.heap.size) : PgX w' pp dp gb mb { p with gen := gen, root := root, dead := dead } M F O := by
  have hgp : gb ≠ pp := fun e => by
    have := h1.hp.symm.trans (e ▸ h1.hg)
    simp only [Option.some.injEq, Obj.cells.injEq] at this
    exact absurd this.2.1 (by decide)
  have hmp : mb ≠ pp := fun e => by
    obtain ⟨D, ⟨es, clock, hb, _⟩, _⟩ := h1.hm
    have := h1.hp.symm.trans (e ▸ hb)
    cases this
  refine ⟨⟨h1.n1, h1.n2, hgen, h1.pg, h1.pn, h1.pc, hp, (hk gb hgp).trans h1.hg, h1.hm.frame (hk mb hmp)⟩, h2.frame hz (fun k hf => hk k (fun e => (h7 pp h4).1 (e ▸ hf))), h3, h4, h5, h6, fun k hk2 => ⟨(h7 k hk2).1, Nat.lt_of_lt_of_le (h7 k hk2).2 hz⟩⟩

def toldP (p : Pg) (e : Nat) : Pg := { p with dead := p.dead || e == 9 }
theorem told_any {pp dp gb mb : Nat} {p : Pg} {M F O : Nat → Prop} (e0 : Nat) (w : World) (h : PgX w pp dp gb mb p M F O) : Calls Try.prog 99 #[.pointer (some ⟨pp, 0, none⟩), .int .i64 (e0 : Int)] w fun e w' => e = .returned (.int .i64 (e0 : Int)) ∧ PgX w' pp dp gb mb (toldP p e0) M F O ∧ Ch O w w' := by
  obtain ⟨h1, h2, h3, h4, h5, h6, h7⟩ := h
  have c5 := cell_blk h1.hp 5
  have f5 := frozen_blk h1.hp 5
  simp at c5
  have fin : Hid (∀ (b : Bool) (w' : World), b = (p.dead || e0 == 9) → w' = w.setCell ⟨pp, 5, none⟩ (.bool b) → PgX w' pp dp gb mb (toldP p e0) M F O ∧ Ch O w w') := hid (by
    rintro b w' hb rfl
    refine ⟨?_, (Ch.refl _ _).setCell (fun _ => h4) _⟩
    have := PgAt.head h1 h2 h3 h4 h5 h6 h7 p.gen p.root b h1.gen (w' := w.setCell ⟨pp, 5, none⟩ (.bool b)) (by rw [heap_set h1.hp]; rfl) (fun k hk => Below.heap_setCell _ _ _ _ hk) (by simp [World.setCell])
    rw [hb] at this ⊢
    exact this)
  clear h1 h2 h3 h4 h5 h6 h7
  cases hd : p.dead with
  | true =>
    rw [hd] at c5
    have fin2 := hid (fin.out true _ (by rw [hd]; rfl) rfl)
    clear hd
    go_enter Try.func99, Try.ntmps99
    go_wp2
    go_ret
    exact ⟨rfl, fin2.out⟩
  | false =>
    rw [hd] at c5
    by_cases h9 : e0 = 9
    · subst h9
      have fin2 := hid (fin.out true _ (by rw [hd]; rfl) rfl)
      clear hd fin
      go_enter Try.func99, Try.ntmps99
      go_wp2
      go_ret
      exact ⟨rfl, fin2.out⟩
    · have hb : ((e0 : Int) == 9) = false := by rw [beq_eq_false_iff_ne]; omega
      have fin2 := hid (fin.out false _ (by rw [hd]; simp [h9]) rfl)
      clear hd h9 fin
      go_enter Try.func99, Try.ntmps99
      go_wp2
      go_ret
      exact ⟨rfl, fin2.out⟩

end Go.Proofs.Ytadhibemadgcoaa
