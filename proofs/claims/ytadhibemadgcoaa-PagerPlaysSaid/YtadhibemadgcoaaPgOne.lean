/- Pagers: how they lie in memory, and the walks of package pager. Conditions: as each theorem says. -/
import Derived.Test.YtadhibemadgcoaaBase2
import Derived.Maps.Own
import Derived.Maps.Views
import Derived.Test.YtadhibemadgcoaaDiskOne
import Derived.Test.YtadhibemadgcoaaPageOne
import Derived.Maps.OwnSet
import Derived.Maps.RangeWalk
import Derived.Deep.RegionHeld3
namespace Go.Proofs.Ytadhibemadgcoaa

section
open Go.RowKit Go.MapKept

/-- A value, read as itself. -/
def RV (v : Value) : Option (DataW Value × List MemPlace) := some (.held v, [])
/-- Block b is a map of at most n entries; what it answers at each key: f; what is not there: z. -/
def MapAt (P : Program) (kt : TypeId) (w : World) (b n : Nat) (z : Value) (f : Int → Value) : Prop :=
  ∃ D : DataW Value, w.ownsMap P kt RV b n D ∧ Maps.IsMap D ∧ ∀ k : Int, (Lit.int .i64 k).wf = true → D.atKey (.int .i64 k) (.held z) = .held (f k)

section
variable {P : Program} {kt : TypeId} {w w' : World} {b n : Nat} {z : Value} {f : Int → Value}
theorem MapAt.made (P : Program) (kt : TypeId) (w : World) (z : Value) : MapAt P kt (w.alloc (.map #[] 0)) w.heap.size 0 z (fun _ => z) :=
  ⟨.map [], World.ownsMap_made w P kt RV, ⟨_, rfl⟩, fun _ _ => rfl⟩
theorem MapAt.lt (h : MapAt P kt w b n z f) : b < w.heap.size := by obtain ⟨D, h, _⟩ := h; exact h.lt
theorem MapAt.mono {m : Nat} (h : MapAt P kt w b n z f) (hm : n ≤ m) : MapAt P kt w b m z f := by obtain ⟨D, h, r⟩ := h; exact ⟨D, h.mono hm, r⟩
theorem MapAt.frame (h : MapAt P kt w b n z f) (hb : w'.heap[b]? = w.heap[b]?) : MapAt P kt w' b n z f := by
  obtain ⟨D, ⟨es, clock, h1, r⟩, h⟩ := h
  exact ⟨D, ⟨es, clock, hb.trans h1, r⟩, h⟩
theorem MapAt.ch {S : Nat → Prop} (h : MapAt P kt w b n z f) (hc : Ch S w w') (hn : ¬ S b) : MapAt P kt w' b n z f := h.frame (hc.block b h.lt hn)
theorem MapAt.lookup {t e : TypeId} (h : MapAt P kt w b n z f) (hk : P.underlying kt = some (.int .i64)) (ht : P.underlying t = some (.map kt e)) (hz : (zeroValue e).run P w = .ok z w) (k : Int) (hw : (Lit.int .i64 k).wf = true) :
    (Instr.lookup t (.map (some b)) (.int .i64 k) false).run P w = .ok (f k) w := by
  obtain ⟨D, h, _, hf⟩ := h
  obtain ⟨v, ps, hrun, hR⟩ := h.lookup (Maps.int_keyed hk) ht hz (zd := .held z) (zp := []) rfl (Maps.keyOf_int_mk hk hw)
  rw [hf k hw] at hR
  simp only [RV, Option.some.injEq, Prod.mk.injEq, DataW.held.injEq] at hR
  rw [hrun, hR.1]
theorem MapAt.update {t e : TypeId} (h : MapAt P kt w b n z f) (hk : P.underlying kt = some (.int .i64)) (ht : P.underlying t = some (.map kt e)) (hn : n < maxLen) (k : Int) (hw : (Lit.int .i64 k).wf = true) (v : Value) :
    ∃ w', (Instr.mapUpdate t (.map (some b)) (.int .i64 k) v).run P w = .ok () w' ∧ MapAt P kt w' b (n + 1) z (fun q => if q = k then v else f q) ∧ Ch (fun q => q = b) w w' := by
  obtain ⟨D, h, hm, hf⟩ := h
  have K := Maps.int_keyed hk
  have hkey := Maps.keyOf_int_mk hk hw
  obtain ⟨w', r1, r2, r3⟩ := h.update K ht hn (val := v) hkey (d := .held v) (ps := []) rfl
  refine ⟨w', r1, ⟨_, r2, ?_, fun q hq => ?_⟩, (Ch.refl _ w).grown r3 (fun q hq _ => by cases hq; rfl)⟩
  · obtain ⟨es, rfl⟩ := hm; exact ⟨_, rfl⟩
  · by_cases hqk : q = k
    · subst hqk
      simp only [if_true]
      exact Maps.atKey_put_same hm (K.key hkey) _ _
    · simp only [if_neg hqk]
      rw [← hf q hq]
      exact Maps.atKey_put_other (by intro e; cases e; exact hqk rfl) _ _
end

theorem int_wf {k : Int} (h1 : -9223372036854775808 ≤ k) (h2 : k ≤ 9223372036854775807) : (Lit.int .i64 k).wf = true := by
  simp only [Lit.wf, Bool.and_eq_true, decide_eq_true_eq]
  have e1 : IntKind.i64.min = -9223372036854775808 := by decide
  have e2 : IntKind.i64.max = 9223372036854775807 := by decide
  rw [e1, e2]
  exact ⟨h1, h2⟩
end

section
open Go.RowKit Go.MapKept

/-- A pager: its disk, gen, root, pages (state, the gen for which it waits), pins, is it dead; ops: a bound on the pins' entries. -/
structure Pg where
  d : Dk
  gen : Nat
  root : List UInt8
  pages : List (Nat × Nat)
  pins : List Nat
  dead : Bool
  ops : Nat

/-- How often a gen is pinned. -/
def cnt (pins : List Nat) (g : Int) : Nat := (pins.filter fun (x : Nat) => (x : Int) == g).length
/-- The pins in memory: a map. -/
def PinAt (w : World) (mb n : Nat) (pins : List Nat) : Prop :=
  ∃ D : DataW Unit, w.ownsMap Try.prog 3 (plainElem Try.prog 3) mb n D ∧ Maps.IsMap D ∧
    ∀ g : Int, (Lit.int .i64 g).wf = true → D.atKey (.int .i64 g) (.lit (.int .i64 0)) = .lit (.int .i64 (cnt pins g : Int)) ∧ Maps.has D (.int .i64 g) = decide (cnt pins g ≠ 0)
theorem PinAt.lt {w : World} {mb n : Nat} {pins : List Nat} (h : PinAt w mb n pins) : mb < w.heap.size := by obtain ⟨D, h, _⟩ := h; exact h.lt
theorem PinAt.frame {w w' : World} {mb n : Nat} {pins : List Nat} (h : PinAt w mb n pins) (hb : w'.heap[mb]? = w.heap[mb]?) : PinAt w' mb n pins := by
  obtain ⟨D, ⟨es, clock, h1, r⟩, h⟩ := h
  exact ⟨D, ⟨es, clock, hb.trans h1, r⟩, h⟩
theorem PinAt.made (w : World) : PinAt (w.alloc (.map #[] 0)) w.heap.size 0 [] :=
  ⟨.map [], World.ownsMap_made w _ _ _, ⟨_, rfl⟩, fun g _ => ⟨rfl, by simp [cnt]; rfl⟩⟩

def pgCells (l : List (Nat × Nat)) : List Value := l.flatMap fun x => [.int .i64 (x.1 : Int), .int .i64 (x.2 : Int)]
theorem pgCells_length (l : List (Nat × Nat)) : (pgCells l).length = l.length * 2 := by
  induction l with
  | nil => rfl
  | cons x l ih => show (_ :: _ :: pgCells l).length = _; simp [ih]; omega
theorem pgCells_get (l : List (Nat × Nat)) : ∀ (j : Nat) (x : Nat × Nat), l[j]? = some x → (pgCells l)[j * 2]? = some (.int .i64 (x.1 : Int)) ∧ (pgCells l)[j * 2 + 1]? = some (.int .i64 (x.2 : Int)) := by
  induction l with
  | nil => intro j x h; simp at h
  | cons y l ih =>
    intro j x h
    have e : pgCells (y :: l) = .int .i64 (y.1 : Int) :: .int .i64 (y.2 : Int) :: pgCells l := by simp [pgCells]
    rw [e]
    cases j with
    | zero => simp at h; subst h; exact ⟨rfl, rfl⟩
    | succ j =>
      have := ih j x (by simpa using h)
      rw [show (j + 1) * 2 = j * 2 + 1 + 1 by omega]
      exact this
theorem pgCells_set (l : List (Nat × Nat)) : ∀ (j : Nat) (x : Nat × Nat), pgCells (l.set j x) = ((pgCells l).set (j * 2) (.int .i64 (x.1 : Int))).set (j * 2 + 1) (.int .i64 (x.2 : Int)) := by
  induction l with
  | nil => intro j x; rfl
  | cons y l ih =>
    intro j x
    have e : ∀ y l, pgCells (y :: l) = .int .i64 ((y : Nat × Nat).1 : Int) :: .int .i64 (y.2 : Int) :: pgCells l := fun y l => by simp [pgCells]
    cases j with
    | zero => rw [List.set_cons_zero, e, e]; rfl
    | succ j =>
      rw [List.set_cons_succ, e, e, ih, show (j + 1) * 2 = j * 2 + 1 + 1 by omega, show j * 2 + 1 + 1 + 1 = (j * 2 + 1) + 1 + 1 by omega]
      rfl

/-- How a pager lies in memory. -/
structure PgIn (w : World) (pp dp gb mb : Nat) (p : Pg) : Prop where
  n1 : 4 ≤ p.pages.length
  n2 : p.pages.length ≤ 4096
  gen : p.gen ≤ 4611686018427387904
  pg : ∀ x ∈ p.pages, x.2 ≤ 4611686018427387904
  pn : ∀ g ∈ p.pins, g ≤ 4611686018427387904
  pc : p.pins.length ≤ p.ops
  hp : w.heap[pp]? = some (.cells #[.pointer (some ⟨dp, 0, none⟩), .int .i64 (p.gen : Int), .string ⟨p.root.toArray⟩, .slice (some ⟨gb, 0, none⟩) p.pages.length p.pages.length, .map (some mb), .bool p.dead] 153 (0, 0))
  hg : w.heap[gb]? = some (.cells (pgCells p.pages).toArray 155 (0, 0))
  hm : PinAt w mb p.ops p.pins
/-- The pager p lies at block pp, its disk at dp; M, F: the disk's blocks; O: the pager's own. -/
def PgX (w : World) (pp dp gb mb : Nat) (p : Pg) (M F O : Nat → Prop) : Prop :=
  PgIn w pp dp gb mb p ∧ DiskAt w dp p.d M F ∧ p.pages.length = p.d.L.length ∧ O pp ∧ O gb ∧ O mb ∧ ∀ k, O k → ¬ F k ∧ k < w.heap.size
def PgAt (w : World) (pp dp : Nat) (p : Pg) (M F O : Nat → Prop) : Prop := ∃ gb mb, PgX w pp dp gb mb p M F O

theorem PgIn.frame {w w' : World} {pp dp gb mb : Nat} {p : Pg} (h : PgIn w pp dp gb mb p) (h1 : w'.heap[pp]? = w.heap[pp]?) (h2 : w'.heap[gb]? = w.heap[gb]?) (h3 : w'.heap[mb]? = w.heap[mb]?) : PgIn w' pp dp gb mb p :=
  ⟨h.n1, h.n2, h.gen, h.pg, h.pn, h.pc, h1.trans h.hp, h2.trans h.hg, h.hm.frame h3⟩
theorem PgAt.ch {S : Nat → Prop} {w w' : World} {pp dp : Nat} {p : Pg} {M F O : Nat → Prop} (h : PgAt w pp dp p M F O) (hc : Ch S w w') (hf : ∀ k, F k → ¬ S k) (ho : ∀ k, O k → ¬ S k) : PgAt w' pp dp p M F O := by
  obtain ⟨gb, mb, h1, h2, h3, h4, h5, h6, h7⟩ := h
  exact ⟨gb, mb, h1.frame (hc.block _ (h7 _ h4).2 (ho _ h4)) (hc.block _ (h7 _ h5).2 (ho _ h5)) (hc.block _ (h7 _ h6).2 (ho _ h6)), h2.ch hc hf, h3, h4, h5, h6, fun k hk => ⟨(h7 k hk).1, Nat.lt_of_lt_of_le (h7 k hk).2 hc.size⟩⟩
/-- The disk alone has turned. -/
theorem PgAt.disk {w w' : World} {pp dp : Nat} {p : Pg} {M F O M' F' : Nat → Prop} {d' : Dk} (h : PgAt w pp dp p M F O) (hc : Ch M w w') (hd : DiskAt w' dp d' M' F') (hl : d'.L.length = p.d.L.length) (hF : ∀ k, F' k → F k ∨ w.heap.size ≤ k) : PgAt w' pp dp { p with d := d' } M' F' O := by
  obtain ⟨gb, mb, h1, h2, h3, h4, h5, h6, h7⟩ := h
  have hMF : ∀ k, M k → F k := by obtain ⟨_, _, _, _, _, _, _, _, h4, _⟩ := h2; exact h4
  have ho : ∀ k, O k → w'.heap[k]? = w.heap[k]? := fun k hk => hc.block k (h7 k hk).2 (fun hm => (h7 k hk).1 (hMF k hm))
  have h1' := h1.frame (ho _ h4) (ho _ h5) (ho _ h6)
  exact ⟨gb, mb, ⟨h1'.n1, h1'.n2, h1'.gen, h1'.pg, h1'.pn, h1'.pc, h1'.hp, h1'.hg, h1'.hm⟩, hd, h3.trans hl.symm, h4, h5, h6, fun k hk => ⟨fun hf => by
    rcases hF k hf with h | h
    · exact (h7 k hk).1 h
    · have := (h7 k hk).2; omega, Nat.lt_of_lt_of_le (h7 k hk).2 hc.size⟩⟩
theorem PgAt.facts {w : World} {pp dp : Nat} {p : Pg} {M F O : Nat → Prop} (h : PgAt w pp dp p M F O) : 4 ≤ p.pages.length ∧ p.pages.length ≤ 4096 ∧ p.gen ≤ 4611686018427387904 ∧ p.pages.length = p.d.L.length ∧ DiskAt w dp p.d M F ∧ (∀ k, M k → F k) ∧ (∀ k, O k → ¬ F k ∧ k < w.heap.size) ∧ O pp := by
  obtain ⟨gb, mb, h1, h2, h3, h4, h5, h6, h7⟩ := h
  exact ⟨h1.n1, h1.n2, h1.gen, h3, h2, by obtain ⟨_, _, _, _, _, _, _, _, h4, _⟩ := h2; exact h4, h7, h4⟩

/-! The small calls. -/
theorem no3_any (x : Int) (w : World) : Calls Try.prog 55 #[.int .i64 x] w fun e w' => e = .returned (.int .i64 x) ∧ w = w' := by
  go_enter Try.func55, Try.ntmps55
  go_wp2
  go_ret
  exact ⟨rfl, rfl⟩
theorem fit_none (w : World) : Calls Try.prog 94 #[.pointer none] w fun e w' => e = .returned (.int .i64 1) ∧ w = w' := by
  go_enter Try.func94, Try.ntmps94
  go_wp2_with (go_at_call 44; refine (size_none _).mono ?_; rintro e w' ⟨rfl, rfl⟩)
  go_ret
  exact ⟨rfl, rfl⟩
def fitE (n : Nat) : Nat := if n < 4 then 2 else 0
theorem fit_any {p : Nat} {d : Dk} {M F : Nat → Prop} (w : World) (h : DiskAt w p d M F) : Calls Try.prog 94 #[.pointer (some ⟨p, 0, none⟩)] w fun e w' => e = .returned (.int .i64 (fitE d.L.length : Nat)) ∧ w = w' := by
  have hs := h.sane
  have hz := size_any w h
  obtain ⟨n, HN⟩ : ∃ n, Hid (d.L.length = n) := ⟨_, hid rfl⟩
  rw [HN.out] at hz ⊢
  have h1 := hs.n1
  rw [HN.out] at h1
  have HZ := hid hz
  have hb : ((n : Int) == 0) = false := by rw [beq_eq_false_iff_ne]; omega
  clear h hs hz
  unfold fitE
  by_cases h4 : n < 4
  · rw [if_pos h4]
    have h4i : (n : Int) < 4 := by omega
    clear h4
    go_enter Try.func94, Try.ntmps94
    go_wp2_with (go_at_call 44; refine HZ.out.mono ?_; rintro e w' ⟨rfl, rfl⟩)
    go_ret
    exact ⟨rfl, rfl⟩
  · rw [if_neg h4]
    have h4i : ¬ (n : Int) < 4 := by omega
    clear h4
    go_enter Try.func94, Try.ntmps94
    go_wp2_with (go_at_call 44; refine HZ.out.mono ?_; rintro e w' ⟨rfl, rfl⟩)
    go_ret
    exact ⟨rfl, rfl⟩

theorem ready_none (w : World) : Calls Try.prog 98 #[.pointer none] w fun e w' => e = .returned (.int .i64 1) ∧ w = w' := by
  go_enter Try.func98, Try.ntmps98
  go_wp2
  go_ret
  exact ⟨rfl, rfl⟩
def readyE (b : Bool) : Nat := if b = true then 9 else 0
theorem ready_any {pp dp : Nat} {p : Pg} {M F O : Nat → Prop} (w : World) (h : PgAt w pp dp p M F O) : Calls Try.prog 98 #[.pointer (some ⟨pp, 0, none⟩)] w fun e w' => e = .returned (.int .i64 (readyE p.dead : Nat)) ∧ w = w' := by
  obtain ⟨gb, mb, h1, -⟩ := h
  have c0 := cell_blk h1.hp 0
  have c5 := cell_blk h1.hp 5
  simp at c0 c5
  clear h1
  cases hd : p.dead with
  | true =>
    rw [hd] at c5
    clear hd
    go_enter Try.func98, Try.ntmps98
    go_wp2
    go_ret
    exact ⟨rfl, rfl⟩
  | false =>
    rw [hd] at c5
    clear hd
    go_enter Try.func98, Try.ntmps98
    go_wp2
    go_ret
    exact ⟨rfl, rfl⟩
theorem gen_none (w : World) : Calls Try.prog 62 #[.pointer none] w fun e w' => e = .returned (.int .i64 0) ∧ w = w' := by
  go_enter Try.func62, Try.ntmps62
  go_wp2
  go_ret
  exact ⟨rfl, rfl⟩
theorem gen_any {pp dp : Nat} {p : Pg} {M F O : Nat → Prop} (w : World) (h : PgAt w pp dp p M F O) : Calls Try.prog 62 #[.pointer (some ⟨pp, 0, none⟩)] w fun e w' => e = .returned (.int .i64 (p.gen : Int)) ∧ w = w' := by
  obtain ⟨gb, mb, h1, -⟩ := h
  have c1 := cell_blk h1.hp 1
  simp at c1
  clear h1
  go_enter Try.func62, Try.ntmps62
  go_wp2
  go_ret
  exact ⟨rfl, rfl⟩
theorem root_none (w : World) : Calls Try.prog 63 #[.pointer none] w fun e w' => e = .returned (.string ⟨#[]⟩) ∧ w = w' := by
  go_enter Try.func63, Try.ntmps63
  go_wp2
  go_ret
  exact ⟨rfl, rfl⟩
theorem root_any {pp dp : Nat} {p : Pg} {M F O : Nat → Prop} (w : World) (h : PgAt w pp dp p M F O) : Calls Try.prog 63 #[.pointer (some ⟨pp, 0, none⟩)] w fun e w' => e = .returned (.string ⟨p.root.toArray⟩) ∧ w = w' := by
  obtain ⟨gb, mb, h1, -⟩ := h
  have c2 := cell_blk h1.hp 2
  simp at c2
  clear h1
  go_enter Try.func63, Try.ntmps63
  go_wp2
  go_ret
  exact ⟨rfl, rfl⟩
def hasP (p : Pg) (n : Int) : Bool := decide (2 ≤ n) && decide (n < p.pages.length)
theorem has_any {pp dp : Nat} {p : Pg} {M F O : Nat → Prop} (n : Int) (w : World) (h : PgAt w pp dp p M F O) : Calls Try.prog 101 #[.pointer (some ⟨pp, 0, none⟩), .int .i64 n] w fun e w' => e = .returned (.bool (hasP p n)) ∧ w = w' := by
  obtain ⟨gb, mb, h1, -⟩ := h
  have c3 := cell_blk h1.hp 3
  simp at c3
  have n2 := h1.n2
  clear h1
  unfold hasP
  by_cases h2 : 2 ≤ n
  · by_cases h3 : n < p.pages.length
    · rw [decide_eq_true h2, decide_eq_true h3]
      go_enter Try.func101, Try.ntmps101
      go_wp2
      go_ret
      exact ⟨rfl, rfl⟩
    · rw [decide_eq_true h2, decide_eq_false h3]
      go_enter Try.func101, Try.ntmps101
      go_wp2
      go_ret
      exact ⟨rfl, rfl⟩
  · rw [decide_eq_false h2]
    go_enter Try.func101, Try.ntmps101
    go_wp2
    go_ret
    exact ⟨by simp, rfl⟩

/-- The pager's own six cells turned. -/
theorem PgAt.head {w w' : World} {pp dp gb mb : Nat} {p : Pg} {M F O : Nat → Prop} (h1 : PgIn w pp dp gb mb p) (h2 : DiskAt w dp p.d M F) (h3 : p.pages.length = p.d.L.length) (h4 : O pp) (h5 : O gb) (h6 : O mb) (h7 : ∀ k, O k → ¬ F k ∧ k < w.heap.size)
    (gen : Nat) (root : List UInt8) (dead : Bool) (hgen : gen ≤ 4611686018427387904)
    (hp : w'.heap[pp]? = some (.cells #[.pointer (some ⟨dp, 0, none⟩), .int .i64 (gen : Int), .string ⟨root.toArray⟩, .slice (some ⟨gb, 0, none⟩) p.pages.length p.pages.length, .map (some mb), .bool dead] 153 (0, 0)))
    (hk : ∀ k, k ≠ pp → w'.heap[k]? = w.heap[k]?) (hz : w.heap.size ≤ w'.heap.size) : PgX w' pp dp gb mb { p with gen := gen, root := root, dead := dead } M F O := by
  have hgp : gb ≠ pp := fun e => by
    have := h1.hp.symm.trans (e ▸ h1.hg)
    simp only [Option.some.injEq, Obj.cells.injEq] at this
    exact absurd this.2.1 (by decide)
  have hmp : mb ≠ pp := fun e => by
    obtain ⟨D, ⟨es, clock, hb, _⟩, _⟩ := h1.hm
    have := h1.hp.symm.trans (e ▸ hb)
    cases this
  refine ⟨⟨h1.n1, h1.n2, hgen, h1.pg, h1.pn, h1.pc, hp, (hk gb hgp).trans h1.hg, h1.hm.frame (hk mb hmp)⟩, h2.frame hz (fun k hf => hk k (fun e => (h7 pp h4).1 (e ▸ hf))), h3, h4, h5, h6, fun k hk2 => ⟨(h7 k hk2).1, Nat.lt_of_lt_of_le (h7 k hk2).2 hz⟩⟩

def toldP (p : Pg) (e : Nat) : Pg := { p with dead := p.dead || e == 9 }
theorem told_any {pp dp gb mb : Nat} {p : Pg} {M F O : Nat → Prop} (e0 : Nat) (w : World) (h : PgX w pp dp gb mb p M F O) : Calls Try.prog 99 #[.pointer (some ⟨pp, 0, none⟩), .int .i64 (e0 : Int)] w fun e w' => e = .returned (.int .i64 (e0 : Int)) ∧ PgX w' pp dp gb mb (toldP p e0) M F O ∧ Ch O w w' := by
  obtain ⟨h1, h2, h3, h4, h5, h6, h7⟩ := h
  have c5 := cell_blk h1.hp 5
  have f5 := frozen_blk h1.hp 5
  simp at c5
  have fin : Hid (∀ (b : Bool) (w' : World), b = (p.dead || e0 == 9) → w' = w.setCell ⟨pp, 5, none⟩ (.bool b) → PgX w' pp dp gb mb (toldP p e0) M F O ∧ Ch O w w') := hid (by
    rintro b w' hb rfl
    refine ⟨?_, (Ch.refl _ _).setCell (fun _ => h4) _⟩
    have := PgAt.head h1 h2 h3 h4 h5 h6 h7 p.gen p.root b h1.gen (w' := w.setCell ⟨pp, 5, none⟩ (.bool b)) (by rw [heap_set h1.hp]; rfl) (fun k hk => Below.heap_setCell _ _ _ _ hk) (by simp [World.setCell])
    rw [hb] at this ⊢
    exact this)
  clear h1 h2 h3 h4 h5 h6 h7
  cases hd : p.dead with
  | true =>
    rw [hd] at c5
    have fin2 := hid (fin.out true _ (by rw [hd]; rfl) rfl)
    clear hd
    go_enter Try.func99, Try.ntmps99
    go_wp2
    go_ret
    exact ⟨rfl, fin2.out⟩
  | false =>
    rw [hd] at c5
    by_cases h9 : e0 = 9
    · subst h9
      have fin2 := hid (fin.out true _ (by rw [hd]; rfl) rfl)
      clear hd fin
      go_enter Try.func99, Try.ntmps99
      go_wp2
      go_ret
      exact ⟨rfl, fin2.out⟩
    · have hb : ((e0 : Int) == 9) = false := by rw [beq_eq_false_iff_ne]; omega
      have fin2 := hid (fin.out false _ (by rw [hd]; simp [h9]) rfl)
      clear hd h9 fin
      go_enter Try.func99, Try.ntmps99
      go_wp2
      go_ret
      exact ⟨rfl, fin2.out⟩
end

section
open Go.RowKit Go.MapKept Go.Maps

theorem cnt_ne {pins : List Nat} {g : Nat} : cnt pins (g : Int) ≠ 0 ↔ g ∈ pins := by
  unfold cnt
  constructor
  · intro h
    obtain ⟨x, hx⟩ := List.exists_mem_of_length_pos (Nat.pos_of_ne_zero h)
    obtain ⟨h1, h2⟩ := List.mem_filter.1 hx
    have h3 : (x : Int) = (g : Int) := by simpa using h2
    have : x = g := by omega
    exact this ▸ h1
  · intro h e
    have : g ∈ pins.filter fun (x : Nat) => (x : Int) == (g : Int) := List.mem_filter.2 ⟨h, by simp⟩
    rw [List.eq_nil_of_length_eq_zero e] at this
    cases this
theorem cnt_neg {pins : List Nat} {g : Int} (h : cnt pins g ≠ 0) : ∃ x ∈ pins, (x : Int) = g := by
  unfold cnt at h
  obtain ⟨x, hx⟩ := List.exists_mem_of_length_pos (Nat.pos_of_ne_zero h)
  obtain ⟨h1, h2⟩ := List.mem_filter.1 hx
  exact ⟨x, h1, by simpa using h2⟩

/-- X is the lowest pin. -/
def LowIs (pins : List Nat) (X : Int) : Prop := (∀ g ∈ pins, X ≤ (g : Int)) ∧ (X = 9223372036854775807 ∨ ∃ g ∈ pins, X = (g : Int))
def LowPost (w : World) (pins : List Nat) (e : Ending) (w' : World) : Prop := ∃ X, e = .returned (.int .i64 X) ∧ LowIs pins X ∧ Ch (fun _ => False) w w'

theorem ch_of_grown {w w' : World} {r : Nat} (h : w.grownBy w' (some r)) : Ch (fun k => k = r) w w' := (Ch.refl _ w).grown h (fun k hk _ => by cases hk; rfl)
theorem ch_of_grown0 {w w' : World} (h : w.grownBy w' none) : Ch (fun _ => False) w w' := (Ch.refl _ w).grown h (fun k hk _ => by cases hk)

/-- What the round knows of the lowest. -/
def LowTill (pins : List Nat) (left : Lit → Bool) (X : Int) : Prop := (∀ g ∈ pins, (Lit.int .i64 (g : Int)).wf = true → left (.int .i64 (g : Int)) = false → X ≤ (g : Int)) ∧ (X = 9223372036854775807 ∨ ∃ g ∈ pins, X = (g : Int))

set_option maxRecDepth 20000 in
set_option maxHeartbeats 1000000 in
theorem low_any {pp dp gb mb : Nat} {p : Pg} {M F O : Nat → Prop} (w : World) (h : PgX w pp dp gb mb p M F O) : Calls Try.prog 112 #[.pointer (some ⟨pp, 0, none⟩)] w (LowPost w p.pins) := by
  obtain ⟨h1, -⟩ := h
  have hp := h1.pn
  have c4 := cell_blk h1.hp 4
  simp at c4
  obtain ⟨D, hown, hmap, hD⟩ := h1.hm
  have HD := hid hD
  have HP := hid hp
  clear h1 hD hp
  go_enter Try.func112, Try.ntmps112
  go_wp2_with (first
    | (at_range; refine wpList_range_own _ rfl _ 151 rfl 3 3 (int_keyed Try.underlying3) Try.underlying151 _ mb _ _ rfl hown ?_; intro w0 hrg0 hg0 hs0)
    | go_in)
  go_frame
  have HG := hid (ch_of_grown0 hg0)
  clear hg0 hs0
  go_loopw [3] (fun x wr => ∃ (X : Int) (left : Lit → Bool) (c : Nat), x = .int .i64 X ∧ wr.ranges Try.prog 3 (plainElem Try.prog 3) mb w.heap.size p.ops D left c ∧ Hid (Ch (fun _ => False) w wr) ∧ Hid (LowTill p.pins left X) ∧ Hid (X ≤ 9223372036854775807)) (fun _ wr => wr.rangeLeft mb w.heap.size)
  case atStart =>
    refine ⟨_, _, _, rfl, hrg0, HG, hid ⟨fun g hg hw hl => ?_, .inl rfl⟩, hid (Int.le_refl _)⟩
    rw [(HD.out g hw).2, decide_eq_false_iff_not] at hl
    exact absurd (cnt_ne.2 hg) hl
  case round =>
    obtain ⟨X, left, c, rfl, hrg, HC, HL, HX⟩ := hrel
    go_wp2_with (first
      | (at_next; refine wpList_next_ranges_ii _ rfl _ rfl 3 3 .i64 .i64 (int_keyed Try.underlying3) Try.underlying3 Try.underlying3 mb w.heap.size p.ops _ _ _ rfl hrg ?_ ?_)
      | go_in)
    · intro _ hl0
      have fin : Hid (LowIs p.pins X) := hid ⟨fun g hg => by
        have := HP.out g hg
        exact HL.out.1 g hg (int_wf (by omega) (by omega)) (hl0 _), HL.out.2⟩
      clear hl0
      go_wp2
      go_ret
      exact ⟨X, rfl, fin.out, HC.out⟩
    · intro x cc w1 cnt1 hwx hwc hlx hat hrg1 hlt hg1 hs1 hen
      have hhas := has_true_of_atKey hat
      rw [(HD.out x hwx).2, decide_eq_true_eq] at hhas
      obtain ⟨g0, hg0, hgx⟩ := cnt_neg hhas
      have HC1 := hid (HC.out.then (ch_of_grown hg1) (fun i hi e => by omega))
      have HLt := hid hlt
      have HNew : Hid (LowTill p.pins (fun z => left z && !z.sameKey (.int .i64 x)) (if x < X then x else X)) := hid (by
        refine ⟨fun g hg hw hl => ?_, ?_⟩
        · simp only [Bool.and_eq_false_iff] at hl
          rcases hl with hl | hl
          · have := HL.out.1 g hg hw hl
            split <;> omega
          · have : (g : Int) = x := by simpa [Lit.sameKey] using hl
            split <;> omega
        · split
          · exact .inr ⟨g0, hg0, hgx.symm⟩
          · exact HL.out.2)
      have HXn : Hid ((if x < X then x else X) ≤ 9223372036854775807) := hid (by have := HX.out; split <;> omega)
      clear hat hhas hgx hg1 hs1 hlt hlx
      go_wp2
      go_roundw
      case rel => exact ⟨_, _, cnt1, rfl, hrg1, HC1, HNew, HXn⟩
      case measure => rw [hrg1.left_eq, hrg.left_eq]; exact HLt.out
end

section
open Go.RowKit Go.MapKept Go.Maps

theorem PgX.ch {S : Nat → Prop} {w w' : World} {pp dp gb mb : Nat} {p : Pg} {M F O : Nat → Prop} (h : PgX w pp dp gb mb p M F O) (hc : Ch S w w') (hf : ∀ k, F k → ¬ S k) (ho : ∀ k, O k → ¬ S k) : PgX w' pp dp gb mb p M F O := by
  obtain ⟨h1, h2, h3, h4, h5, h6, h7⟩ := h
  exact ⟨h1.frame (hc.block _ (h7 _ h4).2 (ho _ h4)) (hc.block _ (h7 _ h5).2 (ho _ h5)) (hc.block _ (h7 _ h6).2 (ho _ h6)), h2.ch hc hf, h3, h4, h5, h6, fun k hk => ⟨(h7 k hk).1, Nat.lt_of_lt_of_le (h7 k hk).2 hc.size⟩⟩
/-- The pages' row turned. -/
theorem PgX.pages {w w' : World} {pp dp gb mb : Nat} {p : Pg} {M F O : Nat → Prop} (h : PgX w pp dp gb mb p M F O) (l : List (Nat × Nat)) (hl : l.length = p.pages.length) (hb : ∀ x ∈ l, x.2 ≤ 4611686018427387904)
    (hg : w'.heap[gb]? = some (.cells (pgCells l).toArray 155 (0, 0))) (hk : ∀ k, k ≠ gb → w'.heap[k]? = w.heap[k]?) (hz : w.heap.size ≤ w'.heap.size) : PgX w' pp dp gb mb { p with pages := l } M F O := by
  obtain ⟨h1, h2, h3, h4, h5, h6, h7⟩ := h
  have hgp : pp ≠ gb := fun e => by
    have := h1.hp.symm.trans (e ▸ h1.hg)
    simp only [Option.some.injEq, Obj.cells.injEq] at this
    exact absurd this.2.1 (by decide)
  have hmp : mb ≠ gb := fun e => by
    obtain ⟨D, ⟨es, clock, hb, _⟩, _⟩ := h1.hm
    have := h1.hg.symm.trans (e ▸ hb)
    cases this
  refine ⟨⟨by show 4 ≤ l.length; rw [hl]; exact h1.n1, by show l.length ≤ 4096; rw [hl]; exact h1.n2, h1.gen, hb, h1.pn, h1.pc, ?_, hg, h1.hm.frame (hk mb hmp)⟩, h2.frame hz (fun k hf => hk k (fun e => (h7 gb h5).1 (e ▸ hf))), by show l.length = _; rw [hl]; exact h3, h4, h5, h6, fun k hk2 => ⟨(h7 k hk2).1, Nat.lt_of_lt_of_le (h7 k hk2).2 hz⟩⟩
  show w'.heap[pp]? = some (.cells #[.pointer (some ⟨dp, 0, none⟩), .int .i64 (p.gen : Int), .string ⟨p.root.toArray⟩, .slice (some ⟨gb, 0, none⟩) l.length l.length, .map (some mb), .bool p.dead] 153 (0, 0))
  rw [hl, hk pp hgp]; exact h1.hp
theorem set_arr (l : List Value) (i : Nat) (v : Value) : l.toArray.setIfInBounds i v = (l.set i v).toArray := by simp
/-- Both cells of a page. -/
theorem PgX.page2 {w : World} {pp dp gb mb : Nat} {p : Pg} {M F O : Nat → Prop} (h : PgX w pp dp gb mb p M F O) (i : Nat) (x : Nat × Nat) (hx : x.2 ≤ 4611686018427387904) :
    PgX ((w.setCell ⟨gb, i * 2, none⟩ (.int .i64 (x.1 : Int))).setCell ⟨gb, i * 2 + 1, none⟩ (.int .i64 (x.2 : Int))) pp dp gb mb { p with pages := p.pages.set i x } M F O ∧ Ch O w ((w.setCell ⟨gb, i * 2, none⟩ (.int .i64 (x.1 : Int))).setCell ⟨gb, i * 2 + 1, none⟩ (.int .i64 (x.2 : Int))) := by
  have hO := h.2.2.2.2.1
  refine ⟨h.pages _ (by simp) (fun y hy => ?_) ?_ (fun k hk => by rw [Below.heap_setCell _ _ _ _ hk, Below.heap_setCell _ _ _ _ hk]) (by simp [World.setCell]), ((Ch.refl _ _).setCell (fun _ => hO) _).setCell (fun _ => hO) _⟩
  · rcases List.mem_or_eq_of_mem_set hy with h1 | h1
    · exact h.1.pg y h1
    · rw [h1]; exact hx
  · rw [heap_set (heap_set h.1.hg _ _) _ _, pgCells_set, set_arr, set_arr]
/-- A page's state alone. -/
theorem PgX.page1 {w : World} {pp dp gb mb : Nat} {p : Pg} {M F O : Nat → Prop} (h : PgX w pp dp gb mb p M F O) (i v : Nat) (y : Nat × Nat) (hy : p.pages[i]? = some y) :
    PgX (w.setCell ⟨gb, i * 2, none⟩ (.int .i64 (v : Int))) pp dp gb mb { p with pages := p.pages.set i (v, y.2) } M F O ∧ Ch O w (w.setCell ⟨gb, i * 2, none⟩ (.int .i64 (v : Int))) := by
  have hO := h.2.2.2.2.1
  refine ⟨h.pages _ (by simp) (fun z hz => ?_) ?_ (fun k hk => Below.heap_setCell _ _ _ _ hk) (by simp [World.setCell]), (Ch.refl _ _).setCell (fun _ => hO) _⟩
  · rcases List.mem_or_eq_of_mem_set hz with h1 | h1
    · exact h.1.pg z h1
    · rw [h1]; exact h.1.pg y (List.mem_of_getElem? hy)
  · rw [heap_set h.1.hg _ _, pgCells_set, set_arr]
    congr 3
    have h2 := (pgCells_get p.pages i y hy).2
    refine List.ext_getElem? fun k => ?_
    by_cases hk : k = i * 2 + 1
    · subst hk
      have hlt := (List.getElem?_eq_some_iff.1 h2).1
      rw [List.getElem?_set_ne (by omega), h2, List.getElem?_set_self (by simpa using hlt)]
    · rw [List.getElem?_set_ne (fun e => hk e.symm)]
/-- The cells of a page. -/
theorem PgX.cells {w : World} {pp dp gb mb : Nat} {p : Pg} {M F O : Nat → Prop} (h : PgX w pp dp gb mb p M F O) {i : Nat} {y : Nat × Nat} (hy : p.pages[i]? = some y) :
    w.cell? ⟨gb, i * 2, none⟩ = some (.int .i64 (y.1 : Int)) ∧ w.cell? ⟨gb, i * 2 + 1, none⟩ = some (.int .i64 (y.2 : Int)) ∧ w.frozen? ⟨gb, i * 2, none⟩ = false ∧ w.frozen? ⟨gb, i * 2 + 1, none⟩ = false ∧ gb < w.heap.size := by
  obtain ⟨h1, h2⟩ := pgCells_get p.pages i y hy
  refine ⟨?_, ?_, frozen_blk h.1.hg _, frozen_blk h.1.hg _, blk_lt h.1.hg⟩
  · rw [cell_blk h.1.hg]; simpa using h1
  · rw [cell_blk h.1.hg]; simpa using h2

/-- A list under way: the first j turned. -/
def till {α : Type} (f : α → α) (l : List α) (j : Nat) : List α := (l.take j).map f ++ l.drop j
theorem till_length {α : Type} (f : α → α) (l : List α) (j : Nat) : (till f l j).length = l.length := by simp [till]; omega
theorem till_get {α : Type} (f : α → α) (l : List α) (j : Nat) (h : j ≤ l.length) : (till f l j)[j]? = l[j]? := by
  unfold till
  have hl : ((l.take j).map f).length = j := by simp; omega
  rw [List.getElem?_append_right (by rw [hl]; exact Nat.le_refl _), hl, Nat.sub_self, List.getElem?_drop, Nat.add_zero]
theorem till_succ {α : Type} (f : α → α) (l : List α) (j : Nat) (x : α) (h : l[j]? = some x) : (till f l j).set j (f x) = till f l (j + 1) := by
  have hj := (List.getElem?_eq_some_iff.1 h).1
  have hx := (List.getElem?_eq_some_iff.1 h).2
  unfold till
  have hl : ((l.take j).map f).length = j := by simp; omega
  rw [List.set_append_right _ _ (by rw [hl]; exact Nat.le_refl _), hl, Nat.sub_self, List.drop_eq_getElem_cons hj, hx, List.set_cons_zero, List.take_add_one, h]
  simp
theorem till_same {α : Type} (f : α → α) (l : List α) (j : Nat) (x : α) (h : l[j]? = some x) (hf : f x = x) : till f l (j + 1) = till f l j := by
  rw [← till_succ f l j x h, hf]
  refine List.ext_getElem? fun k => ?_
  by_cases hk : k = j
  · subst hk
    have hj := (List.getElem?_eq_some_iff.1 h).1
    rw [List.getElem?_set_self (by rw [till_length]; exact hj), till_get f l k (by omega), h]
  · rw [List.getElem?_set_ne (fun e => hk e.symm)]
theorem till_zero {α : Type} (f : α → α) (l : List α) : till f l 0 = l := by simp [till]
theorem till_all {α : Type} (f : α → α) (l : List α) : till f l l.length = l.map f := by simp [till]

/-- What settle makes of a page. -/
def setl (pins : List Nat) (x : Nat × Nat) : Nat × Nat := if x.1 = 4 ∧ (∀ g ∈ pins, x.2 ≤ g) then (0, 0) else x
def settleP (p : Pg) : Pg := { p with pages := p.pages.map (setl p.pins) }
theorem low_ge {pins : List Nat} {X : Int} (h : LowIs pins X) {g : Nat} (hg : g ≤ 4611686018427387904) : (g : Int) ≤ X ↔ ∀ x ∈ pins, g ≤ x := by
  constructor
  · intro h1 x hx; have := h.1 x hx; omega
  · intro h1
    rcases h.2 with e | ⟨x, hx, e⟩
    · omega
    · have := h1 x hx; omega

set_option maxRecDepth 20000 in
set_option maxHeartbeats 2000000 in
theorem settle_any {pp dp gb mb : Nat} {p : Pg} {M F O : Nat → Prop} (w : World) (h : PgX w pp dp gb mb p M F O) :
    Calls Try.prog 100 #[.pointer (some ⟨pp, 0, none⟩)] w fun e w' => e = .returned (.tuple #[]) ∧ PgX w' pp dp gb mb (settleP p) M F O ∧ Ch O w w' := by
  have HLow := hid (low_any w h)
  have H0 := hid h
  have n2 := h.1.n2
  clear h
  go_enter Try.func100, Try.ntmps100
  go_wp2_with fail
  refine HLow.out.mono ?_
  rintro e w1 ⟨X, rfl, hL, hc⟩
  have HX := hid (H0.out.ch hc (fun _ _ h => h) (fun _ _ h => h))
  have HL := hid hL
  have HC := hid hc
  have c3 := cell_blk HX.out.1.hp 3
  simp at c3
  have HPg := hid H0.out.1.pg
  obtain ⟨n, HN⟩ : ∃ n, Hid (p.pages.length = n) := ⟨_, hid rfl⟩
  rw [HN.out] at c3 n2
  clear hc hL
  go_wp2_with fail
  clear c3
  go_loopw [12] (fun i wr => ∃ j : Nat, i = .int .i64 (j : Int) ∧ j ≤ n ∧ Hid (PgX wr pp dp gb mb { p with pages := till (setl p.pins) p.pages j } M F O) ∧ Hid (Ch O w wr)) (fun i _ => n - (intOf i).toNat)
  case atStart => exact ⟨0, rfl, Nat.zero_le _, hid (by rw [till_zero]; exact HX.out), hid (HC.out.mono (fun _ _ h => h.elim))⟩
  case round =>
    obtain ⟨j, rfl, hj, HI, HC⟩ := hrel
    have c3 := cell_blk HI.out.1.hp 3
    simp only [till_length] at c3
    simp at c3
    rw [HN.out] at c3
    by_cases hlt : j < n
    · obtain ⟨x, HXx⟩ : ∃ x, Hid (p.pages[j]? = some x) := ⟨p.pages[j]'(by rw [HN.out]; exact hlt), hid (List.getElem?_eq_getElem _)⟩
      have hxx : ({ p with pages := till (setl p.pins) p.pages j } : Pg).pages[j]? = some x := by
        show (till (setl p.pins) p.pages j)[j]? = some x
        rw [till_get _ _ _ (by rw [HN.out]; exact hj)]; exact HXx.out
      obtain ⟨q1, q2, q3, q4, q5⟩ := HI.out.cells hxx
      have hppz := blk_lt HI.out.1.hp
      have hnp : ¬ pp = wr.heap.size := by omega
      have hng : ¬ gb = wr.heap.size := by omega
      have ca := (Ch.refl (fun _ => False) wr).alloc (.cells #[.int .i64 (x.1 : Int), .int .i64 (x.2 : Int)] 155)
      have HI2 := hid (HI.out.ch ca (fun _ _ h => h) (fun _ _ h => h))
      have HC2 := hid (HC.out.alloc (.cells #[.int .i64 (x.1 : Int), .int .i64 (x.2 : Int)] 155))
      have hxb := HPg.out x (List.mem_of_getElem? HXx.out)
      clear hxx ca
      by_cases h4 : x.1 = 4
      · by_cases hall : ∀ g ∈ p.pins, x.2 ≤ g
        · have hge := (low_ge HL.out hxb).2 hall
          have HF : Hid (setl p.pins x = (0, 0)) := hid (by unfold setl; rw [if_pos ⟨h4, hall⟩])
          obtain ⟨g1, g2⟩ := HI.out.page2 j (0, 0) (by simp)
          have HNext : Hid (∀ (v : Value) (W : World), W = ((wr.setCell ⟨gb, j * 2, none⟩ (.int .i64 0)).setCell ⟨gb, j * 2 + 1, none⟩ (.int .i64 0)).alloc (.cells #[v, .int .i64 (x.2 : Int)] 155) → PgX W pp dp gb mb { p with pages := till (setl p.pins) p.pages (j + 1) } M F O ∧ Ch O w W) := hid (by
            rintro v W rfl
            rw [← till_succ _ _ _ _ HXx.out, HF.out]
            have g3 := (Ch.refl (fun _ => False) ((wr.setCell ⟨gb, j * 2, none⟩ (.int .i64 0)).setCell ⟨gb, j * 2 + 1, none⟩ (.int .i64 0))).alloc (.cells #[v, .int .i64 (x.2 : Int)] 155)
            exact ⟨g1.ch g3 (fun _ _ h => h) (fun _ _ h => h), (HC.out.then g2 (fun _ _ h => h)).alloc _⟩)
          have h4i : (x.1 : Int) = 4 := by omega
          rw [h4i] at q1
          clear g1 g2 h4 hall h4i
          go_wp2
          go_roundw
          case rel => exact ⟨j + 1, by go_num, by omega, hid (HNext.out _ _ rfl).1, hid (HNext.out _ _ rfl).2⟩
          case measure => simp [intOf]; omega
        · have hge : ¬ (x.2 : Int) ≤ X := fun h => hall ((low_ge HL.out hxb).1 h)
          have HF : Hid (setl p.pins x = x) := hid (by unfold setl; rw [if_neg (fun h => hall h.2)])
          have HNext : Hid (PgX (wr.alloc (.cells #[.int .i64 (x.1 : Int), .int .i64 (x.2 : Int)] 155)) pp dp gb mb { p with pages := till (setl p.pins) p.pages (j + 1) } M F O) := hid (by
            rw [till_same _ _ _ _ HXx.out HF.out]; exact HI2.out)
          have h4i : (x.1 : Int) = 4 := by omega
          rw [h4i] at q1 HNext HC2
          clear h4 hall h4i
          go_wp2
          go_roundw
          case rel => exact ⟨j + 1, by go_num, by omega, HNext, HC2⟩
          case measure => simp [intOf]; omega
      · have HF : Hid (setl p.pins x = x) := hid (by unfold setl; rw [if_neg (fun h => h4 h.1)])
        have HNext : Hid (PgX (wr.alloc (.cells #[.int .i64 (x.1 : Int), .int .i64 (x.2 : Int)] 155)) pp dp gb mb { p with pages := till (setl p.pins) p.pages (j + 1) } M F O) := hid (by
          rw [till_same _ _ _ _ HXx.out HF.out]; exact HI2.out)
        have h4b : ((x.1 : Int) == 4) = false := by rw [beq_eq_false_iff_ne]; omega
        clear h4
        go_wp2
        go_roundw
        case rel => exact ⟨j + 1, by go_num, by omega, HNext, HC2⟩
        case measure => simp [intOf]; omega
    · obtain rfl : j = n := by omega
      have fin : Hid (PgX wr pp dp gb mb (settleP p) M F O) := hid (by
        have := HI.out
        rw [← HN.out, till_all] at this
        exact this)
      go_wp2
      go_end0
      exact ⟨rfl, fin.out, HC.out⟩
end

section
open Go.RowKit Go.MapKept Go.Maps

def abF (x : Nat × Nat) : Nat × Nat := if x.1 = 2 then (0, 0) else if x.1 = 3 then (1, x.2) else x
def abortP (p : Pg) : Pg := { p with pages := p.pages.map abF }

theorem abort_none (w : World) : Calls Try.prog 61 #[.pointer none] w fun e w' => e = .returned (.tuple #[]) ∧ w = w' := by
  go_enter Try.func61, Try.ntmps61
  go_wp2
  exact bodyPost_ret (v := .tuple #[]) (by simp [results, Try.results61, go_sem]) rfl ⟨rfl, rfl⟩

set_option maxRecDepth 20000 in
set_option maxHeartbeats 2000000 in
theorem abort_any {pp dp gb mb : Nat} {p : Pg} {M F O : Nat → Prop} (w : World) (h : PgX w pp dp gb mb p M F O) :
    Calls Try.prog 61 #[.pointer (some ⟨pp, 0, none⟩)] w fun e w' => e = .returned (.tuple #[]) ∧ PgX w' pp dp gb mb (abortP p) M F O ∧ Ch O w w' := by
  have HX := hid h
  have n2 := h.1.n2
  have c3 := cell_blk h.1.hp 3
  simp at c3
  obtain ⟨n, HN⟩ : ∃ n, Hid (p.pages.length = n) := ⟨_, hid rfl⟩
  rw [HN.out] at c3 n2
  clear h
  go_enter Try.func61, Try.ntmps61
  go_wp2_with fail
  clear c3
  go_loopw [11] (fun i wr => ∃ j : Nat, i = .int .i64 (j : Int) ∧ j ≤ n ∧ Hid (PgX wr pp dp gb mb { p with pages := till abF p.pages j } M F O) ∧ Hid (Ch O w wr)) (fun i _ => n - (intOf i).toNat)
  case atStart => exact ⟨0, rfl, Nat.zero_le _, hid (by rw [till_zero]; exact HX.out), hid (Ch.refl _ _)⟩
  case round =>
    obtain ⟨j, rfl, hj, HI, HC⟩ := hrel
    have c3 := cell_blk HI.out.1.hp 3
    simp only [till_length] at c3
    simp at c3
    rw [HN.out] at c3
    by_cases hlt : j < n
    · obtain ⟨x, HXx⟩ : ∃ x, Hid (p.pages[j]? = some x) := ⟨p.pages[j]'(by rw [HN.out]; exact hlt), hid (List.getElem?_eq_getElem _)⟩
      have hxx : ({ p with pages := till abF p.pages j } : Pg).pages[j]? = some x := by
        show (till abF p.pages j)[j]? = some x
        rw [till_get _ _ _ (by rw [HN.out]; exact hj)]; exact HXx.out
      obtain ⟨q1, q2, q3, q4, q5⟩ := HI.out.cells hxx
      have HXX := hid hxx
      have hppz := blk_lt HI.out.1.hp
      have hnp : ¬ pp = wr.heap.size := by omega
      have hng : ¬ gb = wr.heap.size := by omega
      clear hxx
      by_cases h2 : x.1 = 2
      · have HF : Hid (abF x = (0, 0)) := hid (by unfold abF; rw [if_pos h2])
        obtain ⟨g1, g2⟩ := HI.out.page2 j (0, 0) (by simp)
        have HNext : Hid (∀ (v : Value) (W : World), W = ((wr.setCell ⟨gb, j * 2, none⟩ (.int .i64 0)).setCell ⟨gb, j * 2 + 1, none⟩ (.int .i64 0)).alloc (.cells #[v, .int .i64 (x.2 : Int)] 155) → PgX W pp dp gb mb { p with pages := till abF p.pages (j + 1) } M F O ∧ Ch O w W) := hid (by
          rintro v W rfl
          rw [← till_succ _ _ _ _ HXx.out, HF.out]
          have g3 := (Ch.refl (fun _ => False) ((wr.setCell ⟨gb, j * 2, none⟩ (.int .i64 0)).setCell ⟨gb, j * 2 + 1, none⟩ (.int .i64 0))).alloc (.cells #[v, .int .i64 (x.2 : Int)] 155)
          exact ⟨g1.ch g3 (fun _ _ h => h) (fun _ _ h => h), (HC.out.then g2 (fun _ _ h => h)).alloc _⟩)
        have h2i : (x.1 : Int) = 2 := by omega
        rw [h2i] at q1
        clear g1 g2 h2 h2i
        go_wp2
        go_roundw
        case rel => exact ⟨j + 1, by go_num, by omega, hid (HNext.out _ _ rfl).1, hid (HNext.out _ _ rfl).2⟩
        case measure => simp [intOf]; omega
      · by_cases h3 : x.1 = 3
        · have HF : Hid (abF x = (1, x.2)) := hid (by unfold abF; rw [if_neg h2, if_pos h3])
          obtain ⟨g1, g2⟩ := HI.out.page1 j 1 x HXX.out
          have HNext : Hid (∀ (v : Value) (W : World), W = (wr.setCell ⟨gb, j * 2, none⟩ (.int .i64 1)).alloc (.cells #[v, .int .i64 (x.2 : Int)] 155) → PgX W pp dp gb mb { p with pages := till abF p.pages (j + 1) } M F O ∧ Ch O w W) := hid (by
            rintro v W rfl
            rw [← till_succ _ _ _ _ HXx.out, HF.out]
            have g3 := (Ch.refl (fun _ => False) (wr.setCell ⟨gb, j * 2, none⟩ (.int .i64 1))).alloc (.cells #[v, .int .i64 (x.2 : Int)] 155)
            exact ⟨PgX.ch g1 g3 (fun _ _ h => h) (fun _ _ h => h), (HC.out.then g2 (fun _ _ h => h)).alloc _⟩)
          have h3i : (x.1 : Int) = 3 := by omega
          rw [h3i] at q1
          clear g1 g2 h2 h3 h3i
          go_wp2
          go_roundw
          case rel => exact ⟨j + 1, by go_num, by omega, hid (HNext.out _ _ rfl).1, hid (HNext.out _ _ rfl).2⟩
          case measure => simp [intOf]; omega
        · have HF : Hid (abF x = x) := hid (by unfold abF; rw [if_neg h2, if_neg h3])
          have ca := (Ch.refl (fun _ => False) wr).alloc (.cells #[.int .i64 (x.1 : Int), .int .i64 (x.2 : Int)] 155)
          have HNext : Hid (PgX (wr.alloc (.cells #[.int .i64 (x.1 : Int), .int .i64 (x.2 : Int)] 155)) pp dp gb mb { p with pages := till abF p.pages (j + 1) } M F O) := hid (by
            rw [till_same _ _ _ _ HXx.out HF.out]; exact HI.out.ch ca (fun _ _ h => h) (fun _ _ h => h))
          have h2b : ((x.1 : Int) == 2) = false := by rw [beq_eq_false_iff_ne]; omega
          have h3b : ((x.1 : Int) == 3) = false := by rw [beq_eq_false_iff_ne]; omega
          clear h2 h3 ca
          go_wp2
          go_roundw
          case rel => exact ⟨j + 1, by go_num, by omega, HNext, hid (HC.out.alloc _)⟩
          case measure => simp [intOf]; omega
    · obtain rfl : j = n := by omega
      have fin : Hid (PgX wr pp dp gb mb (abortP p) M F O) := hid (by
        have := HI.out
        rw [← HN.out, till_all] at this
        exact this)
      go_wp2
      go_end0
      exact ⟨rfl, fin.out, HC.out⟩

/-- How many pages are free. -/
def freeL (l : List (Nat × Nat)) : Nat := ((l.drop 2).filter fun x => x.1 == 0).length
def frT (l : List (Nat × Nat)) (j : Nat) : Nat := freeL (l.take j)
theorem frT_succ {l : List (Nat × Nat)} {j : Nat} {x : Nat × Nat} (h : l[j]? = some x) : frT l (j + 1) = frT l j + if 2 ≤ j ∧ x.1 = 0 then 1 else 0 := by
  unfold frT freeL
  have hj := (List.getElem?_eq_some_iff.1 h).1
  rw [List.take_add_one, h, Option.toList_some]
  by_cases h2 : 2 ≤ j
  · rw [List.drop_append_of_le_length (by rw [List.length_take]; omega), List.filter_append, List.length_append]
    by_cases h0 : x.1 = 0
    · rw [if_pos ⟨h2, h0⟩]; simp [h0]
    · rw [if_neg (fun h => h0 h.2)]; simp [h0]
  · rw [if_neg (fun h => h2 h.1)]
    have e1 : (l.take j ++ [x]).drop 2 = [] := List.drop_of_length_le (by simp; omega)
    have e2 : (l.take j).drop 2 = [] := List.drop_of_length_le (by rw [List.length_take]; omega)
    rw [e1, e2]; rfl
theorem frT_le (l : List (Nat × Nat)) (j : Nat) : frT l j ≤ j := by
  unfold frT freeL
  refine Nat.le_trans (List.length_filter_le _ _) ?_
  rw [List.length_drop, List.length_take]; omega

theorem free_none (w : World) : Calls Try.prog 56 #[.pointer none] w fun e w' => e = .returned (.int .i64 0) ∧ w = w' := by
  go_enter Try.func56, Try.ntmps56
  go_wp2
  go_ret
  exact ⟨rfl, rfl⟩
set_option maxRecDepth 20000 in
set_option maxHeartbeats 2000000 in
theorem free_any {pp dp gb mb : Nat} {p : Pg} {M F O : Nat → Prop} (w : World) (h : PgX w pp dp gb mb p M F O) :
    Calls Try.prog 56 #[.pointer (some ⟨pp, 0, none⟩)] w fun e w' => e = .returned (.int .i64 (freeL p.pages : Int)) ∧ Ch (fun _ => False) w w' := by
  have HX := hid h
  have n2 := h.1.n2
  have c3 := cell_blk h.1.hp 3
  simp at c3
  obtain ⟨n, HN⟩ : ∃ n, Hid (p.pages.length = n) := ⟨_, hid rfl⟩
  rw [HN.out] at c3 n2
  clear h
  go_enter Try.func56, Try.ntmps56
  go_wp2_with fail
  clear c3
  go_loopw [3, 13] (fun s i wr => ∃ (j f : Nat), i = .int .i64 (j : Int) ∧ j ≤ n ∧ s = .int .i64 (f : Int) ∧ f ≤ j ∧ Hid (frT p.pages j = f) ∧ Hid (Ch (fun _ => False) w wr)) (fun _ i _ => n - (intOf i).toNat)
  case atStart => exact ⟨0, 0, rfl, Nat.zero_le _, rfl, Nat.le_refl _, hid (by simp [frT, freeL]), hid (Ch.refl _ _)⟩
  case round =>
    obtain ⟨j, f, rfl, hj, rfl, hfj, HFj, HC⟩ := hrel
    by_cases hlt : j < n
    · obtain ⟨x, HXx⟩ : ∃ x, Hid (p.pages[j]? = some x) := ⟨p.pages[j]'(by rw [HN.out]; exact hlt), hid (List.getElem?_eq_getElem _)⟩
      have HXw := hid (HX.out.ch HC.out (fun _ _ h => h) (fun _ _ h => h))
      obtain ⟨q1, q2, q3, q4, q5⟩ := HXw.out.cells HXx.out
      have hng : ¬ gb = wr.heap.size := by omega
      have HS := hid (frT_succ HXx.out)
      have HC2 := hid (HC.out.alloc (.cells #[.int .i64 (x.1 : Int), .int .i64 (x.2 : Int)] 155))
      by_cases h2 : 2 ≤ (j : Int)
      · by_cases h0 : x.1 = 0
        · have HE : Hid (frT p.pages (j + 1) = f + 1) := hid (by rw [HS.out, if_pos ⟨by omega, h0⟩, HFj.out])
          have h0i : (x.1 : Int) = 0 := by omega
          rw [h0i] at q1 HC2
          clear h0 h0i
          go_wp2
          go_roundw
          case rel => exact ⟨j + 1, f + 1, by go_num, by omega, by go_num, by omega, HE, HC2⟩
          case measure => simp [intOf]; omega
        · have HE : Hid (frT p.pages (j + 1) = f) := hid (by rw [HS.out, if_neg (fun h => h0 h.2), HFj.out, Nat.add_zero])
          have h0b : ((x.1 : Int) == 0) = false := by rw [beq_eq_false_iff_ne]; omega
          clear h0
          go_wp2
          go_roundw
          case rel => exact ⟨j + 1, f, by go_num, by omega, rfl, by omega, HE, HC2⟩
          case measure => simp [intOf]; omega
      · have HE : Hid (frT p.pages (j + 1) = f) := hid (by rw [HS.out, if_neg (fun h => h2 (by omega)), HFj.out, Nat.add_zero])
        go_wp2
        go_roundw
        case rel => exact ⟨j + 1, f, by go_num, by omega, rfl, by omega, HE, HC2⟩
        case measure => simp [intOf]; omega
    · obtain rfl : j = n := by omega
      have fin : Hid (freeL p.pages = f) := hid (by rw [← HFj.out, frT, List.take_of_length_le (by rw [HN.out]; exact Nat.le_refl _)])
      go_wp2
      go_ret
      exact ⟨by rw [fin.out]; rfl, HC.out⟩

/-- Drop. -/
def dropP (p : Pg) (n : Int) : Nat × Pg :=
  if p.dead = true then (9, p)
  else match (if hasP p n = true then p.pages[n.toNat]? else none) with
    | some x => if x.1 = 2 then (0, { p with pages := p.pages.set n.toNat (0, 0) }) else if x.1 = 1 then (0, { p with pages := p.pages.set n.toNat (3, x.2) }) else (3, p)
    | none => (3, p)
theorem drop_none (n : Int) (w : World) : Calls Try.prog 59 #[.pointer none, .int .i64 n] w fun e w' => e = .returned (.int .i64 1) ∧ w = w' := by
  go_enter Try.func59, Try.ntmps59
  go_wp2_with (go_at_call 98; refine (ready_none _).mono ?_; rintro e w' ⟨rfl, rfl⟩)
  go_ret
  exact ⟨rfl, rfl⟩
set_option maxRecDepth 20000 in
set_option maxHeartbeats 2000000 in
theorem drop_any {pp dp gb mb : Nat} {p : Pg} {M F O : Nat → Prop} (n : Int) (w : World) (h : PgX w pp dp gb mb p M F O) :
    Calls Try.prog 59 #[.pointer (some ⟨pp, 0, none⟩), .int .i64 n] w fun e w' => e = .returned (.int .i64 ((dropP p n).1 : Nat)) ∧ PgX w' pp dp gb mb (dropP p n).2 M F O ∧ Ch O w w' := by
  have HX := hid h
  have hR := ready_any w ⟨gb, mb, h⟩
  have hH := has_any n w ⟨gb, mb, h⟩
  have n2 := h.1.n2
  have c3 := cell_blk h.1.hp 3
  simp at c3
  clear h
  by_cases hd : p.dead = true
  · have e : dropP p n = (9, p) := by unfold dropP; rw [if_pos hd]
    rw [e]
    rw [hd] at hR
    have HR := hid hR
    clear hR hH c3 e hd
    go_enter Try.func59, Try.ntmps59
    go_wp2_with (go_at_call 98; refine HR.out.mono ?_; rintro e w' ⟨rfl, rfl⟩)
    go_ret
    exact ⟨rfl, HX.out, Ch.refl _ _⟩
  have hdf : p.dead = false := by simpa using hd
  rw [hdf] at hR
  have HR := hid hR
  have HD := hid hd
  clear hR hd hdf
  cases hh : hasP p n with
  | false =>
    have e : dropP p n = (3, p) := by unfold dropP; rw [if_neg HD.out, hh]; rfl
    rw [e]
    rw [hh] at hH
    have HH := hid hH
    clear hH e hh
    go_enter Try.func59, Try.ntmps59
    go_wp2_with (first | (go_at_call 98; refine HR.out.mono ?_; rintro e w' ⟨rfl, rfl⟩) | (go_at_call 101; refine HH.out.mono ?_; rintro e w' ⟨rfl, rfl⟩))
    go_ret
    exact ⟨rfl, HX.out, Ch.refl _ _⟩
  | true =>
    rw [hh] at hH
    have HH := hid hH
    have hb : 2 ≤ n ∧ n < p.pages.length := by simpa [hasP] using hh
    obtain ⟨m, rfl⟩ := Int.eq_ofNat_of_zero_le (show 0 ≤ n by omega)
    obtain ⟨x, HXx⟩ : ∃ x, Hid (p.pages[m]? = some x) := ⟨p.pages[m]'(by omega), hid (List.getElem?_eq_getElem _)⟩
    obtain ⟨q1, q2, q3, q4, q5⟩ := HX.out.cells HXx.out
    have hm1 : (m : Int) < (p.pages.length : Int) := hb.2
    have hm0 : (0 : Int) ≤ (m : Int) := Int.natCast_nonneg _
    have HE : Hid (dropP p (m : Int) = if x.1 = 2 then (0, { p with pages := p.pages.set m (0, 0) }) else if x.1 = 1 then (0, { p with pages := p.pages.set m (3, x.2) }) else (3, p)) := hid (by
      unfold dropP
      rw [if_neg HD.out, hh, if_pos rfl, Int.toNat_natCast, HXx.out])
    rw [HE.out]
    obtain ⟨nn, HN⟩ : ∃ nn, Hid (p.pages.length = nn) := ⟨_, hid rfl⟩
    rw [HN.out] at c3 n2 hm1
    clear hH hh hb
    by_cases h2 : x.1 = 2
    · rw [if_pos h2]
      have g := hid (HX.out.page2 m (0, 0) (by simp))
      have h2i : (x.1 : Int) = 2 := by omega
      rw [h2i] at q1
      clear h2 h2i
      go_enter Try.func59, Try.ntmps59
      go_wp2_with (first | (go_at_call 98; refine HR.out.mono ?_; rintro e w' ⟨rfl, rfl⟩) | (go_at_call 101; refine HH.out.mono ?_; rintro e w' ⟨rfl, rfl⟩))
      go_ret
      exact ⟨rfl, g.out.1, g.out.2⟩
    · rw [if_neg h2]
      by_cases h1 : x.1 = 1
      · rw [if_pos h1]
        have g := hid (HX.out.page1 m 3 x HXx.out)
        have h1i : (x.1 : Int) = 1 := by omega
        rw [h1i] at q1
        clear h2 h1 h1i
        go_enter Try.func59, Try.ntmps59
        go_wp2_with (first | (go_at_call 98; refine HR.out.mono ?_; rintro e w' ⟨rfl, rfl⟩) | (go_at_call 101; refine HH.out.mono ?_; rintro e w' ⟨rfl, rfl⟩))
        go_ret
        exact ⟨rfl, g.out.1, g.out.2⟩
      · rw [if_neg h1]
        have h2b : ((x.1 : Int) == 2) = false := by rw [beq_eq_false_iff_ne]; omega
        have h1b : ((x.1 : Int) == 1) = false := by rw [beq_eq_false_iff_ne]; omega
        clear h2 h1
        go_enter Try.func59, Try.ntmps59
        go_wp2_with (first | (go_at_call 98; refine HR.out.mono ?_; rintro e w' ⟨rfl, rfl⟩) | (go_at_call 101; refine HH.out.mono ?_; rintro e w' ⟨rfl, rfl⟩))
        go_ret
        exact ⟨rfl, HX.out, Ch.refl _ _⟩
end

section
open Go.RowKit Go.MapKept Go.Maps

theorem PgX.disk {w w' : World} {pp dp gb mb : Nat} {p : Pg} {M F O M' F' : Nat → Prop} {d' : Dk} (h : PgX w pp dp gb mb p M F O) (hc : Ch M w w') (hd : DiskAt w' dp d' M' F') (hl : d'.L.length = p.d.L.length) (hF : Fresh w F F') : PgX w' pp dp gb mb { p with d := d' } M' F' O := by
  obtain ⟨h1, h2, h3, h4, h5, h6, h7⟩ := h
  have hMF : ∀ k, M k → F k := by obtain ⟨_, _, _, _, _, _, _, _, h4, _⟩ := h2; exact h4
  have ho : ∀ k, O k → w'.heap[k]? = w.heap[k]? := fun k hk => hc.block k (h7 k hk).2 (fun hm => (h7 k hk).1 (hMF k hm))
  have h1' := h1.frame (ho _ h4) (ho _ h5) (ho _ h6)
  exact ⟨⟨h1'.n1, h1'.n2, h1'.gen, h1'.pg, h1'.pn, h1'.pc, h1'.hp, h1'.hg, h1'.hm⟩, hd, h3.trans hl.symm, h4, h5, h6, fun k hk => ⟨fun hf => by
    rcases hF k hf with h | h
    · exact (h7 k hk).1 h
    · have := (h7 k hk).2; omega, Nat.lt_of_lt_of_le (h7 k hk).2 hc.size⟩⟩
theorem PgX.at_ {w : World} {pp dp gb mb : Nat} {p : Pg} {M F O : Nat → Prop} (h : PgX w pp dp gb mb p M F O) : PgAt w pp dp p M F O := ⟨gb, mb, h⟩
theorem PgX.MF {w : World} {pp dp gb mb : Nat} {p : Pg} {M F O : Nat → Prop} (h : PgX w pp dp gb mb p M F O) : (∀ k, M k → F k) ∧ (∀ k, F k → k < w.heap.size) ∧ ∀ k, O k → ¬ F k ∧ k < w.heap.size := by
  obtain ⟨h1, h2, h3, h4, h5, h6, h7⟩ := h
  obtain ⟨_, _, _, _, _, _, _, _, h8, h9⟩ := h2
  exact ⟨h8, h9, h7⟩

theorem write_len (d : Dk) (a : Int) (b : List UInt8) : (writeD d a b).2.L.length = d.L.length := by
  unfold writeD
  split
  · rfl
  · split
    · rfl
    · by_cases hg : d.gone = true ∨ d.fuse = 0
      · rw [stepD_no hg, if_pos rfl]
      · rw [stepD_yes hg, if_neg (by simp)]; rfl
theorem flush_len (d : Dk) : (flushD d).2.L.length = d.L.length := by
  unfold flushD
  by_cases hg : d.gone = true ∨ d.fuse = 0
  · rw [stepD_no hg, if_pos rfl]
  · rw [stepD_yes hg, if_neg (by simp)]; exact applyW_length _ _

/-- The first free page; their number, if there is none. -/
def ffL (l : List (Nat × Nat)) : Nat := 2 + (l.drop 2).findIdx fun x => x.1 == 0
structure IsFF (l : List (Nat × Nat)) (j : Nat) : Prop where
  lo : 2 ≤ j
  hi : j ≤ l.length
  no : ∀ i x, 2 ≤ i → i < j → l[i]? = some x → x.1 ≠ 0
  yes : ∀ x, l[j]? = some x → x.1 = 0
theorem IsFF.eq {l : List (Nat × Nat)} {j : Nat} (h : IsFF l j) : ffL l = j := by
  unfold ffL
  have e : (l.drop 2).findIdx (fun x => x.1 == 0) = j - 2 := by
    by_cases hj : j < l.length
    · rw [List.findIdx_eq (by rw [List.length_drop]; have := h.lo; omega)]
      refine ⟨?_, fun i hi => ?_⟩
      · have := h.yes (l[j]) (List.getElem?_eq_getElem hj)
        simp only [List.getElem_drop, show 2 + (j - 2) = j by have := h.lo; omega]
        simpa using this
      · have := h.no (2 + i) (l[2 + i]'(by omega)) (by omega) (by omega) (List.getElem?_eq_getElem _)
        simpa using this
    · have hl : j = l.length := by have := h.hi; omega
      rw [List.findIdx_eq_length_of_false, List.length_drop, hl]
      intro x hx
      obtain ⟨i, hi, rfl⟩ := List.mem_iff_getElem.1 hx
      rw [List.length_drop] at hi
      have := h.no (2 + i) (l[2 + i]'(by omega)) (by omega) (by omega) (List.getElem?_eq_getElem _)
      simpa using this
  rw [e]
  have := h.lo
  omega

/-- Put: the page's number, the error, the pager. -/
def putP (p : Pg) (kind : Int) (s : List UInt8) : Nat × Nat × Pg :=
  if p.dead = true then (0, 9, p)
  else if sealE kind ((p.gen : Int) + 1) s.length ≠ 0 then (0, sealE kind ((p.gen : Int) + 1) s.length, p)
  else if ffL p.pages = p.pages.length then (0, 6, p)
  else if (writeD p.d (ffL p.pages : Int) (sealL kind ((p.gen : Int) + 1) s)).1 ≠ 0 then (0, (writeD p.d (ffL p.pages : Int) (sealL kind ((p.gen : Int) + 1) s)).1, toldP { p with d := (writeD p.d (ffL p.pages : Int) (sealL kind ((p.gen : Int) + 1) s)).2 } (writeD p.d (ffL p.pages : Int) (sealL kind ((p.gen : Int) + 1) s)).1)
  else (ffL p.pages, 0, { p with d := (writeD p.d (ffL p.pages : Int) (sealL kind ((p.gen : Int) + 1) s)).2, pages := p.pages.set (ffL p.pages) (2, (p.pages.getD (ffL p.pages) (0, 0)).2) })

theorem put_none (kind : Int) (s : ByteArray) (w : World) : Calls Try.prog 57 #[.pointer none, .int .i64 kind, .string s] w fun e w' => e = .returned (.tuple #[.int .i64 0, .int .i64 1]) ∧ w = w' := by
  go_enter Try.func57, Try.ntmps57
  go_wp2_with (go_at_call 98; refine (ready_none _).mono ?_; rintro e w' ⟨rfl, rfl⟩)
  go_ret2
  exact ⟨rfl, rfl⟩

def PutPost (w : World) (pp dp gb mb : Nat) (p : Pg) (M F O : Nat → Prop) (kind : Int) (s : List UInt8) (e : Ending) (w' : World) : Prop :=
  e = .returned (.tuple #[.int .i64 ((putP p kind s).1 : Nat), .int .i64 ((putP p kind s).2.1 : Nat)]) ∧ ∃ M' F', PgX w' pp dp gb mb (putP p kind s).2.2 M' F' O ∧ Fresh w M M' ∧ Fresh w F F' ∧ Ch (fun k => M k ∨ O k) w w'

set_option maxRecDepth 20000 in
set_option maxHeartbeats 4000000 in
theorem put_any2 {pp dp gb mb : Nat} {p : Pg} {M F O : Nat → Prop} (kind : Int) (s : ByteArray) (w : World) (h : PgX w pp dp gb mb p M F O) (hst : p.d.steps ≤ 1000000) (hwt : p.d.wait.length ≤ 1000000) :
    Calls Try.prog 57 #[.pointer (some ⟨pp, 0, none⟩), .int .i64 kind, .string s] w (PutPost w pp dp gb mb p M F O kind s.data.toList) := by
  have HX := hid h
  have hR := ready_any w h.at_
  have c1 := cell_blk h.1.hp 1
  simp at c1
  have n2 := h.1.n2
  have n1 := h.1.n1
  have hgen := h.1.gen
  clear h
  by_cases hd : p.dead = true
  · have e : putP p kind s.data.toList = (0, 9, p) := by unfold putP; rw [if_pos hd]
    have fin : Hid (PutPost w pp dp gb mb p M F O kind s.data.toList (.returned (.tuple #[.int .i64 0, .int .i64 9])) w) := hid (by
      unfold PutPost; rw [e]; exact ⟨rfl, M, F, HX.out, Fresh.refl _ _, Fresh.refl _ _, Ch.refl _ _⟩)
    rw [hd] at hR
    have HR := hid hR
    clear hR c1 e hd
    go_enter Try.func57, Try.ntmps57
    go_wp2_with (go_at_call 98; refine HR.out.mono ?_; rintro e w' ⟨rfl, rfl⟩)
    go_ret2
    exact fin.out
  have hdf : p.dead = false := by simpa using hd
  rw [hdf] at hR
  have HR := hid hR
  have HD := hid hd
  have HDf := hid hdf
  clear hR hd hdf
  obtain ⟨g, HGg⟩ : ∃ g, Hid (p.gen = g) := ⟨_, hid rfl⟩
  rw [HGg.out] at c1 hgen
  have HSeal := hid (seal_any kind ((g : Int) + 1) s w)
  by_cases hE : sealE kind ((g : Int) + 1) s.size ≠ 0
  · have e : putP p kind s.data.toList = (0, sealE kind ((g : Int) + 1) s.size, p) := by
      unfold putP; rw [if_neg HD.out, HGg.out, size_toList, if_pos hE]
    have fin : Hid (∀ w', Ch (fun _ => False) w w' → PutPost w pp dp gb mb p M F O kind s.data.toList (.returned (.tuple #[.int .i64 0, .int .i64 (sealE kind ((g : Int) + 1) s.size : Nat)])) w') := hid (fun w' hc => by
      unfold PutPost; rw [e]; exact ⟨rfl, M, F, HX.out.ch hc (fun _ _ h => h) (fun _ _ h => h), Fresh.refl _ _, Fresh.refl _ _, hc.mono (fun _ _ h => h.elim)⟩)
    obtain ⟨E, HEE⟩ : ∃ E, Hid (sealE kind ((g : Int) + 1) s.size = E) := ⟨_, hid rfl⟩
    rw [HEE.out] at fin HSeal hE
    have hEb : ((E : Int) == 0) = false := by simpa using hE
    clear hE e
    go_enter Try.func57, Try.ntmps57
    go_wp2_with (go_at_call 98; refine HR.out.mono ?_; rintro e w' ⟨rfl, rfl⟩)
    refine HSeal.out.mono ?_
    rintro e w1 ⟨v, rfl, -, c, -⟩
    have HC := hid c
    clear c
    go_wp2_with fail
    go_ret2
    exact fin.out _ HC.out
  have hE0 : sealE kind ((g : Int) + 1) s.size = 0 := by omega
  have HE0 := hid hE0
  rw [hE0] at HSeal
  clear hE hE0
  go_enter Try.func57, Try.ntmps57
  go_wp2_with (go_at_call 98; refine HR.out.mono ?_; rintro e w' ⟨rfl, rfl⟩)
  refine HSeal.out.mono ?_
  rintro e w1 ⟨v, rfl, hb, c, ho⟩
  obtain ⟨B, HB⟩ : ∃ B, Hid (sealL kind ((g : Int) + 1) s.data.toList = B) := ⟨_, hid rfl⟩
  rw [HB.out] at hb
  obtain ⟨va, vc, rfl⟩ := hb.form
  have HBt := hid hb
  have HC := hid c
  have HO := hid ho
  have HX1 := hid (HX.out.ch c (fun _ _ h => h) (fun _ _ h => h))
  have c3 := cell_blk HX1.out.1.hp 3
  have c0 := cell_blk HX1.out.1.hp 0
  simp at c3 c0
  obtain ⟨n, HN⟩ : ∃ n, Hid (p.pages.length = n) := ⟨_, hid rfl⟩
  rw [HN.out] at c3 n2 n1
  clear hb c ho c1
  go_wp2_with fail
  go_loop [11] (fun i => ∃ j : Nat, i = .int .i64 (j : Int) ∧ 2 ≤ j ∧ j ≤ n ∧ Hid (∀ i x, 2 ≤ i → i < j → p.pages[i]? = some x → x.1 ≠ 0)) (fun i => n - (intOf i).toNat)
  case atStart => exact ⟨2, rfl, Nat.le_refl _, by omega, hid (fun i x h1 h2 => by omega)⟩
  case round =>
    obtain ⟨j, rfl, hj2, hj, HNo⟩ := hrel
    by_cases hlt : j < n
    · obtain ⟨x, HXx⟩ : ∃ x, Hid (p.pages[j]? = some x) := ⟨p.pages[j]'(by rw [HN.out]; exact hlt), hid (List.getElem?_eq_getElem _)⟩
      obtain ⟨q1, q2, q3, q4, q5⟩ := HX1.out.cells HXx.out
      by_cases h0 : x.1 = 0
      · have HFF : Hid (ffL p.pages = j) := hid (IsFF.eq ⟨hj2, by rw [HN.out]; exact hj, HNo.out, fun y hy => by rw [HXx.out] at hy; cases hy; exact h0⟩)
        have h0i : (x.1 : Int) = 0 := by omega
        rw [h0i] at q1
        have hjn : ((j : Int) == (n : Int)) = false := by rw [beq_eq_false_iff_ne]; omega
        have hwr := write_any (j : Int) va B.length vc B _ HX1.out.2.1 hst hwt HBt.out rfl (fun k hk hm => by
          have h1 := HO.out k hk
          have h2 := HX.out.MF.2.1 k (HX.out.MF.1 k hm)
          omega)
        obtain ⟨E, HEE⟩ : ∃ E, Hid ((writeD p.d (j : Int) B).1 = E) := ⟨_, hid rfl⟩
        obtain ⟨D, HDD⟩ : ∃ D, Hid ((writeD p.d (j : Int) B).2 = D) := ⟨_, hid rfl⟩
        have HDl : Hid (D.L.length = p.d.L.length) := hid (by rw [← HDD.out]; exact write_len _ _ _)
        rw [HEE.out, HDD.out] at hwr
        have HWr := hid hwr
        have HP : Hid (putP p kind s.data.toList = if E ≠ 0 then (0, E, toldP { p with d := D } E) else (j, 0, { p with d := D, pages := p.pages.set j (2, x.2) })) := hid (by
          unfold putP
          have e1 : p.pages.getD j (0, 0) = x := by rw [List.getD, HXx.out]; rfl
          rw [if_neg HD.out, HGg.out, size_toList, HB.out, if_neg (by rw [HE0.out]; simp), HFF.out, if_neg (by rw [HN.out]; omega), HEE.out, HDD.out, e1])
        clear hwr h0 h0i
        by_cases hE : E = 0
        · subst hE
          go_wp2_with fail
          refine HWr.out.mono ?_
          rintro e w2 ⟨rfl, M', F', hd2, hm2, hf2, cc⟩
          have HX2 := hid (HX1.out.disk cc hd2 HDl.out hf2)
          have HM2 := hid hm2
          have HF2 := hid hf2
          have HC2 := hid cc
          clear hd2 hm2 hf2 cc
          go_wp2_with fail
          refine (told_any 0 _ HX2.out).mono ?_
          rintro e w3 ⟨rfl, hX3, c4⟩
          have e3 : toldP { p with d := D } 0 = { p with d := D } := by unfold toldP; simp
          rw [e3] at hX3
          have HX3 := hid hX3
          have HC3 := hid c4
          obtain ⟨q1, q2, q3, q4, q5⟩ := HX3.out.cells (i := j) (y := x) HXx.out
          have c3 := cell_blk HX3.out.1.hp 3
          simp at c3
          rw [HN.out] at c3
          have fin : Hid (∀ W, W = w3.setCell ⟨gb, j * 2, none⟩ (.int .i64 2) → PutPost w pp dp gb mb p M F O kind s.data.toList (.returned (.tuple #[.int .i64 (j : Int), .int .i64 0])) W) := hid (by
            rintro W rfl
            unfold PutPost
            rw [HP.out, if_neg (by simp)]
            obtain ⟨k1, k2⟩ := HX3.out.page1 j 2 x HXx.out
            have hz := HC.out.size
            refine ⟨rfl, M', F', k1, fun k hk => ?_, fun k hk => ?_, ?_⟩
            · rcases HM2.out k hk with h | h
              · exact .inl h
              · exact .inr (by omega)
            · rcases HF2.out k hk with h | h
              · exact .inl h
              · exact .inr (by omega)
            · have cA : Ch (fun k => M k ∨ O k) w w2 := (HC.out.mono (T := fun k => M k ∨ O k) (fun _ _ h => h.elim)).then HC2.out (fun i _ h => .inl h)
              have cB : Ch (fun k => M k ∨ O k) w w3 := cA.then HC3.out (fun i _ h => .inr h)
              exact cB.then k2 (fun i _ h => .inr h))
          clear e3 hX3 c4
          go_wp2_with fail
          go_ret2
          exact fin.out _ rfl
        · have hEb : ((E : Int) == 0) = false := by simpa using hE
          have HE := hid hE
          clear hE
          go_wp2_with fail
          refine HWr.out.mono ?_
          rintro e w2 ⟨rfl, M', F', hd2, hm2, hf2, cc⟩
          have HX2 := hid (HX1.out.disk cc hd2 HDl.out hf2)
          have HM2 := hid hm2
          have HF2 := hid hf2
          have HC2 := hid cc
          clear hd2 hm2 hf2 cc
          go_wp2_with fail
          refine (told_any E _ HX2.out).mono ?_
          rintro e w3 ⟨rfl, hX3, c4⟩
          have fin : Hid (PutPost w pp dp gb mb p M F O kind s.data.toList (.returned (.tuple #[.int .i64 0, .int .i64 (E : Int)])) w3) := hid (by
            unfold PutPost
            rw [HP.out, if_pos HE.out]
            have hz := HC.out.size
            refine ⟨rfl, M', F', hX3, fun k hk => ?_, fun k hk => ?_, ?_⟩
            · rcases HM2.out k hk with h | h
              · exact .inl h
              · exact .inr (by omega)
            · rcases HF2.out k hk with h | h
              · exact .inl h
              · exact .inr (by omega)
            · have cA : Ch (fun k => M k ∨ O k) w w2 := (HC.out.mono (T := fun k => M k ∨ O k) (fun _ _ h => h.elim)).then HC2.out (fun i _ h => .inl h)
              exact cA.then c4 (fun i _ h => .inr h))
          clear hX3 c4
          go_wp2_with fail
          go_ret2
          exact fin.out
      · have h0b : ((x.1 : Int) == 0) = false := by rw [beq_eq_false_iff_ne]; omega
        have HNo2 : Hid (∀ i x, 2 ≤ i → i < j + 1 → p.pages[i]? = some x → x.1 ≠ 0) := hid (fun i y h1 h2 hy => by
          by_cases hij : i < j
          · exact HNo.out i y h1 hij hy
          · obtain rfl : i = j := by omega
            rw [HXx.out] at hy; cases hy; exact h0)
        clear h0
        go_wp2_with fail
        go_round
        case rel => exact ⟨j + 1, by go_num, by omega, by omega, HNo2⟩
        case measure => simp [intOf]; omega
    · obtain rfl : j = n := by omega
      have HP : Hid (putP p kind s.data.toList = (0, 6, p)) := hid (by
        have hff : ffL p.pages = j := IsFF.eq ⟨hj2, by rw [HN.out]; exact hj, HNo.out, fun y hy => by
          have := (List.getElem?_eq_some_iff.1 hy).1
          rw [HN.out] at this; omega⟩
        unfold putP
        rw [if_neg HD.out, HGg.out, size_toList, if_neg (by rw [HE0.out]; simp), hff, if_pos HN.out.symm])
      have fin : Hid (PutPost w pp dp gb mb p M F O kind s.data.toList (.returned (.tuple #[.int .i64 0, .int .i64 6])) w1) := hid (by
        unfold PutPost
        rw [HP.out]
        exact ⟨rfl, M, F, HX1.out, Fresh.refl _ _, Fresh.refl _ _, HC.out.mono (fun _ _ h => h.elim)⟩)
      go_wp2_with fail
      go_ret2
      exact fin.out
end

section
open Go.RowKit Go.MapKept Go.Maps

/-- Is there a page that is not free? -/
def liveP (p : Pg) (n : Int) : Bool := hasP p n && !((p.pages.getD n.toNat (0, 0)).1 == 0)
/-- Read: kind, content, error, and the pager. -/
def readP (p : Pg) (n : Int) : (Nat × List UInt8 × Nat) × Pg :=
  if p.dead = true then ((0, [], 9), p)
  else if liveP p n = false then ((0, [], 3), p)
  else if (readD p.d n).1 ≠ 0 then ((0, [], (readD p.d n).1), toldP p (readD p.d n).1)
  else match openL (readD p.d n).2 with
    | none => ((0, [], 10), p)
    | some (k, _, s) => ((k, s, 0), p)
theorem pread_none (n : Int) (w : World) : Calls Try.prog 64 #[.pointer none, .int .i64 n] w fun e w' => e = .returned (.tuple #[.int .i64 0, .string ⟨#[]⟩, .int .i64 1]) ∧ w = w' := by
  go_enter Try.func64, Try.ntmps64
  go_wp2_with (go_at_call 98; refine (ready_none _).mono ?_; rintro e w' ⟨rfl, rfl⟩)
  go_ret3
  exact ⟨rfl, rfl⟩

def PReadPost (w : World) (pp dp gb mb : Nat) (p : Pg) (M F O : Nat → Prop) (n : Int) (e : Ending) (w' : World) : Prop :=
  e = .returned (.tuple #[.int .i64 ((readP p n).1.1 : Nat), .string ⟨(readP p n).1.2.1.toArray⟩, .int .i64 ((readP p n).1.2.2 : Nat)]) ∧ PgX w' pp dp gb mb (readP p n).2 M F O ∧ Ch O w w'

set_option maxRecDepth 20000 in
set_option maxHeartbeats 2000000 in
theorem pread_any {pp dp gb mb : Nat} {p : Pg} {M F O : Nat → Prop} (n : Int) (w : World) (h : PgX w pp dp gb mb p M F O) (hwt : p.d.wait.length ≤ 1000000) :
    Calls Try.prog 64 #[.pointer (some ⟨pp, 0, none⟩), .int .i64 n] w (PReadPost w pp dp gb mb p M F O n) := by
  have HX := hid h
  have hR := ready_any w h.at_
  have hH := has_any n w h.at_
  have n2 := h.1.n2
  have c3 := cell_blk h.1.hp 3
  have c0 := cell_blk h.1.hp 0
  simp at c3 c0
  clear h
  by_cases hd : p.dead = true
  · have fin : Hid (PReadPost w pp dp gb mb p M F O n (.returned (.tuple #[.int .i64 0, .string ⟨#[]⟩, .int .i64 9])) w) := hid (by
      unfold PReadPost readP; rw [if_pos hd]; exact ⟨rfl, HX.out, Ch.refl _ _⟩)
    rw [hd] at hR
    have HR := hid hR
    clear hR hH c3 c0 hd
    go_enter Try.func64, Try.ntmps64
    go_wp2_with (go_at_call 98; refine HR.out.mono ?_; rintro e w' ⟨rfl, rfl⟩)
    go_ret3
    exact fin.out
  have hdf : p.dead = false := by simpa using hd
  rw [hdf] at hR
  have HR := hid hR
  have HD := hid hd
  clear hR hd hdf
  have HBad : Hid (liveP p n = false → PReadPost w pp dp gb mb p M F O n (.returned (.tuple #[.int .i64 0, .string ⟨#[]⟩, .int .i64 3])) w) := hid (fun hl => by
    unfold PReadPost readP; rw [if_neg HD.out, if_pos hl]; exact ⟨rfl, HX.out, Ch.refl _ _⟩)
  cases hh : hasP p n with
  | false =>
    have fin := hid (HBad.out (by unfold liveP; rw [hh]; rfl))
    rw [hh] at hH
    have HH := hid hH
    clear hH hh
    go_enter Try.func64, Try.ntmps64
    go_wp2_with (first | (go_at_call 98; refine HR.out.mono ?_; rintro e w' ⟨rfl, rfl⟩) | (go_at_call 101; refine HH.out.mono ?_; rintro e w' ⟨rfl, rfl⟩))
    go_ret3
    exact fin.out
  | true =>
    rw [hh] at hH
    have HH := hid hH
    have hb : 2 ≤ n ∧ n < p.pages.length := by simpa [hasP] using hh
    obtain ⟨m, rfl⟩ := Int.eq_ofNat_of_zero_le (show 0 ≤ n by omega)
    obtain ⟨x, HXx⟩ : ∃ x, Hid (p.pages[m]? = some x) := ⟨p.pages[m]'(by omega), hid (List.getElem?_eq_getElem _)⟩
    obtain ⟨q1, q2, q3, q4, q5⟩ := HX.out.cells HXx.out
    have hm1 : (m : Int) < (p.pages.length : Int) := hb.2
    have hm0 : (0 : Int) ≤ (m : Int) := Int.natCast_nonneg _
    have HLv : Hid (liveP p (m : Int) = !(x.1 == 0)) := hid (by unfold liveP; rw [hh, Int.toNat_natCast, List.getD, HXx.out]; rfl)
    obtain ⟨nn, HN⟩ : ∃ nn, Hid (p.pages.length = nn) := ⟨_, hid rfl⟩
    rw [HN.out] at c3 n2 hm1
    clear hH hh hb
    by_cases h0 : x.1 = 0
    · have fin := hid (HBad.out (by rw [HLv.out, h0]; rfl))
      have h0i : (x.1 : Int) = 0 := by omega
      rw [h0i] at q1
      clear h0 h0i
      go_enter Try.func64, Try.ntmps64
      go_wp2_with (first | (go_at_call 98; refine HR.out.mono ?_; rintro e w' ⟨rfl, rfl⟩) | (go_at_call 101; refine HH.out.mono ?_; rintro e w' ⟨rfl, rfl⟩))
      go_ret3
      exact fin.out
    · have hlv : liveP p (m : Int) = true := by rw [HLv.out]; simpa using h0
      have h0b : ((x.1 : Int) == 0) = false := by rw [beq_eq_false_iff_ne]; omega
      have hrd := read_any (m : Int) w HX.out.2.1 hwt
      obtain ⟨E, HEE⟩ : ∃ E, Hid ((readD p.d (m : Int)).1 = E) := ⟨_, hid rfl⟩
      obtain ⟨B, HB⟩ : ∃ B, Hid ((readD p.d (m : Int)).2 = B) := ⟨_, hid rfl⟩
      have hP : readP p (m : Int) = if E ≠ 0 then ((0, [], E), toldP p E) else match openL B with
          | none => ((0, [], 10), p)
          | some (k, _, s) => ((k, s, 0), p) := by
        unfold readP
        rw [if_neg HD.out, if_neg (by rw [hlv]; simp), HEE.out, HB.out]
      have HP := hid hP
      rw [HEE.out, HB.out] at hrd
      have HRd := hid hrd
      clear hrd hlv h0 hP HBad
      by_cases hE : E = 0
      · subst hE
        go_enter Try.func64, Try.ntmps64
        go_wp2_with (first | (go_at_call 98; refine HR.out.mono ?_; rintro e w' ⟨rfl, rfl⟩) | (go_at_call 101; refine HH.out.mono ?_; rintro e w' ⟨rfl, rfl⟩))
        refine HRd.out.mono ?_
        rintro e w1 ⟨v, rfl, hb, c, -, ⟨xa, xc, rfl⟩⟩
        have HBt := hid hb
        have HC := hid c
        have HBl : Hid (B.length ≤ 140737488355328) := hid (by
          have hs := HX.out.2.1.sane
          have : ∀ l ∈ (applyW p.d.wait p.d.L), l.length = 512 := applyW_secs _ (fun x hx => (hs.wait x hx).1) _ hs.secs
          rw [← HB.out]
          unfold readD
          split
          · simp
          · split
            · simp
            · rename_i hr hg
              have hl : (m : Int).toNat < p.d.L.length := by omega
              show (readW p.d.wait (m : Int).toNat (p.d.L.getD (m : Int).toNat [])).length ≤ _
              rw [readW_apply _ _ _ hl, List.getD, List.getElem?_eq_getElem (by rw [applyW_length]; exact hl), Option.getD_some, this _ (List.getElem_mem _)]
              omega)
        clear hb c
        go_wp2_with fail
        refine (open_any _ B _ HBl.out HBt.out).mono ?_
        rintro e w2 ⟨rfl, c2⟩
        have HC2 := hid (HC.out.trans c2)
        clear c2
        cases ho : openL B with
        | none =>
          have fin : Hid (PReadPost w pp dp gb mb p M F O (m : Int) (.returned (.tuple #[.int .i64 0, .string ⟨#[]⟩, .int .i64 10])) w2) := hid (by
            unfold PReadPost; rw [HP.out, if_neg (by simp), ho]; exact ⟨rfl, HX.out.ch HC2.out (fun _ _ h => h) (fun _ _ h => h), HC2.out.mono (fun _ _ h => h.elim)⟩)
          unfold openV
          clear ho
          go_wp2_with fail
          go_ret3
          exact fin.out
        | some y =>
          obtain ⟨k, g, s⟩ := y
          have fin : Hid (PReadPost w pp dp gb mb p M F O (m : Int) (.returned (.tuple #[.int .i64 (k : Int), .string ⟨s.toArray⟩, .int .i64 0])) w2) := hid (by
            unfold PReadPost; rw [HP.out, if_neg (by simp), ho]; exact ⟨rfl, HX.out.ch HC2.out (fun _ _ h => h) (fun _ _ h => h), HC2.out.mono (fun _ _ h => h.elim)⟩)
          unfold openV
          clear ho
          go_wp2_with fail
          go_ret3
          exact fin.out
      · have hEb : ((E : Int) == 0) = false := by simpa using hE
        have HE := hid hE
        clear hE
        go_enter Try.func64, Try.ntmps64
        go_wp2_with (first | (go_at_call 98; refine HR.out.mono ?_; rintro e w' ⟨rfl, rfl⟩) | (go_at_call 101; refine HH.out.mono ?_; rintro e w' ⟨rfl, rfl⟩))
        refine HRd.out.mono ?_
        rintro e w1 ⟨v, rfl, -, c, -, ⟨xa, xc, rfl⟩⟩
        have HC := hid c
        clear c
        go_wp2_with fail
        refine (told_any E _ (HX.out.ch HC.out (fun _ _ h => h) (fun _ _ h => h))).mono ?_
        rintro e w2 ⟨rfl, hX2, c2⟩
        have fin : Hid (PReadPost w pp dp gb mb p M F O (m : Int) (.returned (.tuple #[.int .i64 0, .string ⟨#[]⟩, .int .i64 (E : Int)])) w2) := hid (by
          unfold PReadPost; rw [HP.out, if_pos HE.out]; exact ⟨rfl, hX2, (HC.out.mono (T := O) (fun _ _ h => h.elim)).then c2 (fun _ _ h => h)⟩)
        clear hX2 c2
        go_wp2_with fail
        go_ret3
        exact fin.out
end

section
open Go.RowKit Go.MapKept Go.Maps

/-- What Commit makes of a page. -/
def cmF (gen : Nat) (x : Nat × Nat) : Nat × Nat := if x.1 = 2 then (1, x.2) else if x.1 = 3 then (4, gen) else x
/-- The writing of a root: the error, the disk. -/
def rootW (d : Dk) (gen : Nat) (b : List UInt8) : Nat × Dk :=
  if (flushD d).1 ≠ 0 then flushD d
  else if (writeD (flushD d).2 ((gen % 2 : Nat) : Int) b).1 ≠ 0 then writeD (flushD d).2 ((gen % 2 : Nat) : Int) b
  else flushD (writeD (flushD d).2 ((gen % 2 : Nat) : Int) b).2
/-- Commit: the error, and the pager. -/
def commitP (p : Pg) (s : List UInt8) : Nat × Pg :=
  if p.dead = true then (9, p)
  else if srootE ((p.gen : Int) + 1) s.length ≠ 0 then (srootE ((p.gen : Int) + 1) s.length, p)
  else if (rootW p.d (p.gen + 1) (srootL ((p.gen : Int) + 1) s)).1 ≠ 0 then ((rootW p.d (p.gen + 1) (srootL ((p.gen : Int) + 1) s)).1, toldP { p with d := (rootW p.d (p.gen + 1) (srootL ((p.gen : Int) + 1) s)).2 } (rootW p.d (p.gen + 1) (srootL ((p.gen : Int) + 1) s)).1)
  else (0, settleP { p with d := (rootW p.d (p.gen + 1) (srootL ((p.gen : Int) + 1) s)).2, gen := p.gen + 1, root := s, pages := p.pages.map (cmF (p.gen + 1)) })

theorem commit_none (s : ByteArray) (w : World) : Calls Try.prog 58 #[.pointer none, .string s] w fun e w' => e = .returned (.int .i64 1) ∧ w = w' := by
  go_enter Try.func58, Try.ntmps58
  go_wp2_with (go_at_call 98; refine (ready_none _).mono ?_; rintro e w' ⟨rfl, rfl⟩)
  go_ret
  exact ⟨rfl, rfl⟩

theorem PgX.drew {w : World} {pp dp gb mb : Nat} {p : Pg} {M F O : Nat → Prop} (h : PgX w pp dp gb mb p M F O) : PgX w.drew pp dp gb mb p M F O := h.ch (Ch.refl (fun _ => False) w).drew (fun _ _ h => h) (fun _ _ h => h)
theorem cell_ch2 {S : Nat → Prop} {w w' : World} {p : Addr} {v : Value} (h : w.cell? p = some v) (hc : Ch S w w') (hn : ¬ S p.block) : w'.cell? p = some v := by
  rw [World.cell?_of_block (hc.block p.block (World.block_lt_of_cell? w _ h) hn)]; exact h
theorem keep2 {S : Nat → Prop} {w w' : World} {b : Nat} {v0 v1 : Value} (h : w.cell? ⟨b, 0, none⟩ = some v0 ∧ w.cell? ⟨b, 1, none⟩ = some v1) (hc : Ch S w w') (hn : ∀ q, q = b → ¬ S q) : w'.cell? ⟨b, 0, none⟩ = some v0 ∧ w'.cell? ⟨b, 1, none⟩ = some v1 :=
  ⟨cell_ch2 h.1 hc (hn _ rfl), cell_ch2 h.2 hc (hn _ rfl)⟩
theorem str_back (s : ByteArray) : (⟨s.data.toList.toArray⟩ : ByteArray) = s := by cases s; simp

def ComPost (w : World) (pp dp gb mb : Nat) (p : Pg) (M F O : Nat → Prop) (s : List UInt8) (e : Ending) (w' : World) : Prop :=
  e = .returned (.int .i64 ((commitP p s).1 : Nat)) ∧ ∃ M' F', PgX w' pp dp gb mb (commitP p s).2 M' F' O ∧ Fresh w M M' ∧ Fresh w F F' ∧ Ch (fun k => M k ∨ O k) w w'

set_option maxRecDepth 100000 in
set_option maxHeartbeats 4000000 in
theorem commit_any {pp dp gb mb : Nat} {p : Pg} {M F O : Nat → Prop} (s : ByteArray) (w : World) (h : PgX w pp dp gb mb p M F O) (hst : p.d.steps ≤ 900000) (hwt : p.d.wait.length ≤ 900000) :
    Calls Try.prog 58 #[.pointer (some ⟨pp, 0, none⟩), .string s] w (ComPost w pp dp gb mb p M F O s.data.toList) := by
  have HX := hid h
  have hR := ready_any w h.at_
  have c1 := cell_blk h.1.hp 1
  simp at c1
  have n2 := h.1.n2
  have hgen := h.1.gen
  clear h
  by_cases hd : p.dead = true
  · have e : commitP p s.data.toList = (9, p) := by unfold commitP; rw [if_pos hd]
    have fin : Hid (ComPost w pp dp gb mb p M F O s.data.toList (.returned (.int .i64 9)) w) := hid (by
      unfold ComPost; rw [e]; exact ⟨rfl, M, F, HX.out, Fresh.refl _ _, Fresh.refl _ _, Ch.refl _ _⟩)
    rw [hd] at hR
    have HR := hid hR
    clear hR c1 e hd
    go_enter Try.func58, Try.ntmps58
    go_wp2_with (go_at_call 98; refine HR.out.mono ?_; rintro e w' ⟨rfl, rfl⟩)
    go_ret
    exact fin.out
  have hdf : p.dead = false := by simpa using hd
  rw [hdf] at hR
  have HR := hid hR
  have HD := hid hd
  have HDf := hid hdf
  clear hR hd hdf
  obtain ⟨g, HGg⟩ : ∃ g, Hid (p.gen = g) := ⟨_, hid rfl⟩
  rw [HGg.out] at c1 hgen
  have HSeal := hid (sroot_any ((g : Int) + 1) s w)
  by_cases hE : srootE ((g : Int) + 1) s.size ≠ 0
  · have e : commitP p s.data.toList = (srootE ((g : Int) + 1) s.size, p) := by
      unfold commitP; rw [if_neg HD.out, HGg.out, size_toList, if_pos hE]
    have fin : Hid (∀ w', Ch (fun _ => False) w w' → ComPost w pp dp gb mb p M F O s.data.toList (.returned (.int .i64 (srootE ((g : Int) + 1) s.size : Nat))) w') := hid (fun w' hc => by
      unfold ComPost; rw [e]; exact ⟨rfl, M, F, HX.out.ch hc (fun _ _ h => h) (fun _ _ h => h), Fresh.refl _ _, Fresh.refl _ _, hc.mono (fun _ _ h => h.elim)⟩)
    obtain ⟨E, HEE⟩ : ∃ E, Hid (srootE ((g : Int) + 1) s.size = E) := ⟨_, hid rfl⟩
    rw [HEE.out] at fin HSeal hE
    have hEb : ((E : Int) == 0) = false := by simpa using hE
    clear hE e
    go_enter Try.func58, Try.ntmps58
    go_wp2_with (go_at_call 98; refine HR.out.mono ?_; rintro e w' ⟨rfl, rfl⟩)
    refine HSeal.out.mono ?_
    rintro e w1 ⟨v, rfl, -, c, -⟩
    have HC := hid c
    clear c
    go_wp2_with fail
    go_ret
    exact fin.out _ HC.out
  have hE0 : srootE ((g : Int) + 1) s.size = 0 := by omega
  have HE0 := hid hE0
  have HGn : Hid (g + 1 ≤ 4611686018427387904) := hid (by
    rcases srootE_cases ((g : Int) + 1) s.size with ⟨h, _⟩ | ⟨h, _⟩ | ⟨_, _, _, h⟩
    · rw [hE0] at h; cases h
    · rw [hE0] at h; cases h
    · omega)
  rw [hE0] at HSeal
  clear hE hE0
  have HCm : Hid (commitP p s.data.toList = if (rootW p.d (g + 1) (srootL ((g : Int) + 1) s.data.toList)).1 ≠ 0 then ((rootW p.d (g + 1) (srootL ((g : Int) + 1) s.data.toList)).1, toldP { p with d := (rootW p.d (g + 1) (srootL ((g : Int) + 1) s.data.toList)).2 } (rootW p.d (g + 1) (srootL ((g : Int) + 1) s.data.toList)).1)
      else (0, settleP { p with d := (rootW p.d (g + 1) (srootL ((g : Int) + 1) s.data.toList)).2, gen := g + 1, root := s.data.toList, pages := p.pages.map (cmF (g + 1)) })) := hid (by
    unfold commitP
    rw [if_neg HD.out, HGg.out, size_toList, if_neg (by rw [HE0.out]; simp)])
  obtain ⟨B, HB⟩ : ∃ B, Hid (srootL ((g : Int) + 1) s.data.toList = B) := ⟨_, hid rfl⟩
  rw [HB.out] at HSeal HCm
  -- the three steps of the disk, as plain values
  obtain ⟨E1, HE1⟩ : ∃ E, Hid ((flushD p.d).1 = E) := ⟨_, hid rfl⟩
  obtain ⟨D1, HD1⟩ : ∃ D, Hid ((flushD p.d).2 = D) := ⟨_, hid rfl⟩
  have HL1 : Hid (D1.L.length = p.d.L.length) := hid (by rw [← HD1.out]; exact flush_len _)
  have HPl1 : Hid (D1.steps ≤ 900001 ∧ D1.wait.length ≤ 900001) := hid (by
    have := (Pl.mk (n := p.d.L.length) (i := 900000) rfl hst hwt).flush
    rw [HD1.out] at this
    exact ⟨this.steps, this.wait⟩)
  have HFl1 := hid (fun (W : World) (hc : Ch (fun _ => False) w W) => flush_any W (HX.out.2.1.ch hc (fun _ _ h => h)) (by omega) (by omega))
  rw [HE1.out, HD1.out] at HFl1
  by_cases hE1 : ¬ E1 = 0
  · have hEb : ((E1 : Int) == 0) = false := by simpa using hE1
    have HE := hid hE1
    clear hE1
    go_enter Try.func58, Try.ntmps58
    go_wp2_with (go_at_call 98; refine HR.out.mono ?_; rintro e w' ⟨rfl, rfl⟩)
    refine HSeal.out.mono ?_
    rintro e w1 ⟨v, rfl, -, c, -⟩
    have c0 := cell_blk (HX.out.ch c (fun _ _ h => h) (fun _ _ h => h)).1.hp 0
    simp at c0
    have HC := hid c
    clear c
    go_wp2_with fail
    refine (HFl1.out _ HC.out).mono ?_
    rintro e w2 ⟨rfl, hd2, c2⟩
    have HX2 := hid ((HX.out.ch HC.out (fun _ _ h => h) (fun _ _ h => h)).disk c2 hd2 HL1.out (Fresh.refl _ _))
    have HC2 := hid ((HC.out.mono (T := fun k => M k ∨ O k) (fun _ _ h => h.elim)).then c2 (fun i _ h => .inl h))
    clear hd2 c2
    go_wp2_with fail
    refine (told_any E1 _ HX2.out).mono ?_
    rintro e w3 ⟨rfl, hX3, c3⟩
    have fin : Hid (ComPost w pp dp gb mb p M F O s.data.toList (.returned (.int .i64 (E1 : Int))) w3) := hid (by
      unfold ComPost
      have hr : rootW p.d (g + 1) B = (E1, D1) := by unfold rootW; rw [HE1.out, if_pos HE.out, ← HE1.out, ← HD1.out]
      rw [HCm.out, hr, if_pos HE.out]
      exact ⟨rfl, M, F, hX3, Fresh.refl _ _, Fresh.refl _ _, HC2.out.then c3 (fun i _ h => .inr h)⟩)
    clear hX3 c3
    go_wp2_with fail
    go_ret
    exact fin.out
  obtain rfl : E1 = 0 := by omega
  clear hE1
  obtain ⟨E2, HE2⟩ : ∃ E, Hid ((writeD D1 (((g + 1) % 2 : Nat) : Int) B).1 = E) := ⟨_, hid rfl⟩
  obtain ⟨D2, HD2⟩ : ∃ D, Hid ((writeD D1 (((g + 1) % 2 : Nat) : Int) B).2 = D) := ⟨_, hid rfl⟩
  have HL2 : Hid (D2.L.length = ({ p with d := D1 } : Pg).d.L.length) := hid (by rw [← HD2.out]; exact write_len _ _ _)
  have HPl2 : Hid (D2.steps ≤ 900002 ∧ D2.wait.length ≤ 900002) := hid (by
    have := (Pl.mk (d := D1) (n := D1.L.length) (i := 900001) rfl HPl1.out.1 HPl1.out.2).write (((g + 1) % 2 : Nat) : Int) B
    rw [HD2.out] at this
    exact ⟨this.steps, this.wait⟩)
  go_enter Try.func58, Try.ntmps58
  go_wp2_with (go_at_call 98; refine HR.out.mono ?_; rintro e w' ⟨rfl, rfl⟩)
  refine HSeal.out.mono ?_
  rintro e w1 ⟨v, rfl, hb, c, ho⟩
  have c0 := cell_blk (HX.out.ch c (fun _ _ h => h) (fun _ _ h => h)).1.hp 0
  simp at c0
  obtain ⟨va, vc, rfl⟩ := hb.form
  have HBt := hid hb
  have HO := hid ho
  have HC := hid c
  clear c hb ho
  go_wp2_with fail
  refine (HFl1.out _ HC.out).mono ?_
  rintro e w2 ⟨rfl, hd2, c2⟩
  have HX2 := hid ((HX.out.ch HC.out (fun _ _ h => h) (fun _ _ h => h)).disk c2 hd2 HL1.out (Fresh.refl _ _))
  have HC2 := hid ((HC.out.mono (T := fun k => M k ∨ O k) (fun _ _ h => h.elim)).then c2 (fun i _ h => .inl h))
  have HVn : Hid (∀ k, (Value.slice va B.length vc).ownBlock = some k → ¬ M k ∧ ¬ O k) := hid (fun k hk => by
    have h1 := HO.out k hk
    have h2 := HX.out.MF
    exact ⟨fun hm => by have := h2.2.1 k (h2.1 k hm); omega, fun hm => by have := (h2.2.2 k hm).2; omega⟩)
  have HBt2 := hid (HBt.out.ch c2 (fun k hk => (HVn.out k hk).1))
  clear hd2 c2 c0 c1
  go_wp2_with fail
  refine (told_any 0 _ HX2.out).mono ?_
  rintro e w3 ⟨rfl, hX3, c3⟩
  have e3 : toldP { p with d := D1 } 0 = { p with d := D1 } := by unfold toldP; simp
  rw [e3] at hX3
  have HX3 := hid hX3
  have HC3 := hid (HC2.out.then c3 (fun i _ h => .inr h))
  have HBt3 := hid (HBt2.out.ch c3 (fun k hk => (HVn.out k hk).2))
  have HS0 := hid (show w3.drew.cell? ⟨pp, 0, none⟩ = some (.pointer (some ⟨dp, 0, none⟩)) ∧ w3.drew.cell? ⟨pp, 1, none⟩ = some (.int .i64 (g : Int)) from by
    refine ⟨?_, ?_⟩ <;> (rw [cell_blk HX3.out.drew.1.hp]; simp [HGg.out]))
  have hwr := write_any (((g + 1) % 2 : Nat) : Int) va B.length vc B w3.drew HX3.out.drew.2.1 (show D1.steps ≤ 1000000 by have := HPl1.out.1; omega) (show D1.wait.length ≤ 1000000 by have := HPl1.out.2; omega) (HBt3.out.ch (Ch.refl (fun _ => False) w3).drew (fun _ _ h => h)) rfl (fun k hk => (HVn.out k hk).1)
  rw [HE2.out, HD2.out] at hwr
  have HWr := hid hwr
  clear hX3 c3 e3 hwr
  go_wp2_with fail
  have hw1 : IntKind.i64.wrap ((g : Int) + 1) = (g : Int) + 1 := wrap_id (by omega) (by have := HGn.out; omega)
  have hw2 : Int.tmod ((g : Int) + 1) 2 = (((g + 1) % 2 : Nat) : Int) := by
    rw [Int.tmod_eq_emod_of_nonneg (by omega)]; omega
  have hw3 : IntKind.i64.wrap (((g + 1) % 2 : Nat) : Int) = (((g + 1) % 2 : Nat) : Int) := wrap_id (by omega) (by omega)
  obtain ⟨gm, hgm⟩ : ∃ gm : Int, gm = (((g + 1) % 2 : Nat) : Int) := ⟨_, rfl⟩
  rw [← hgm] at hw2 hw3 HWr
  by_cases hE2 : ¬ E2 = 0
  · have hEb : ((E2 : Int) == 0) = false := by simpa using hE2
    have HE := hid hE2
    have HGM := hid hgm
    clear hE2 hgm
    refine wp_region_noPanic ?_
    refine wp_region_held_drew (S := (fun W => W.cell? ⟨pp, 0, none⟩ = some (.pointer (some ⟨dp, 0, none⟩)) ∧ W.cell? ⟨pp, 1, none⟩ = some (.int .i64 (g : Int)))) (by kernel_rfl) HS0.out (fun hHeld => ?_)
    refine wpAnyH_take (i := 0) (v := ?_) rfl (by kernel_rfl) (by kernel_rfl) (by kernel_rfl) (fun _ _ _ h => h) (Or.inl ⟨by rfl, ?_⟩) (by assumption) ?_
    rotate_left
    · intro w hSw
      try dsimp only at hSw
      go_simp
      all_goals with_reducible rfl
    try simp only [lay_all]
    refine wpAnyH_take (i := 1) (v := ?_) rfl (by kernel_rfl) (by kernel_rfl) (by kernel_rfl) (fun _ _ _ h => h) (Or.inl ⟨by rfl, ?_⟩) (by assumption) ?_
    rotate_left
    · intro w hSw
      try dsimp only at hSw
      go_simp
      all_goals with_reducible rfl
    try simp only [lay_all]
    refine wpAnyH_take (i := 2) (v := ?_) rfl (by kernel_rfl) (by kernel_rfl) (by kernel_rfl) (fun _ _ _ h => h) (Or.inl ⟨by rfl, ?_⟩) (by assumption) ?_
    rotate_left
    · intro w hSw
      try dsimp only at hSw
      go_simp
      all_goals with_reducible rfl
    try simp only [lay_all]
    refine wpAnyH_take (i := 3) (v := ?_) rfl (by kernel_rfl) (by kernel_rfl) (by kernel_rfl) (fun _ _ _ h => h) (Or.inl ⟨by rfl, ?_⟩) (by assumption) ?_
    rotate_left
    · intro w hSw
      try dsimp only at hSw
      go_simp
      all_goals with_reducible rfl
    try simp only [lay_all]
    refine wpAnyH_take (i := 4) (v := ?_) rfl (by kernel_rfl) (by kernel_rfl) (by kernel_rfl) (fun _ _ _ h => h) (Or.inl ⟨by rfl, ?_⟩) (by assumption) ?_
    rotate_left
    · intro w hSw
      try dsimp only at hSw
      go_simp
      all_goals with_reducible rfl
    try simp only [lay_all]
    refine wpAnyH_take (i := 5) (v := ?_) rfl (by kernel_rfl) (by kernel_rfl) (by kernel_rfl) (fun _ _ _ h => h) (Or.inl ⟨by rfl, ?_⟩) (by assumption) ?_
    rotate_left
    · intro w hSw
      try dsimp only at hSw
      go_simp
      all_goals with_reducible rfl
    try simp only [lay_all]
    refine wpAnyH_take (i := 6) (v := ?_) rfl (by kernel_rfl) (by kernel_rfl) (by kernel_rfl) (fun _ _ _ h => h) (Or.inl ⟨by rfl, ?_⟩) (by assumption) ?_
    rotate_left
    · intro w hSw
      try dsimp only at hSw
      go_simp
      all_goals with_reducible rfl
    try simp only [lay_all]
    refine wpAnyH_take (i := 7) (v := ?_) rfl (by kernel_rfl) (by kernel_rfl) (by kernel_rfl) (fun _ _ _ h => h) (Or.inl ⟨by rfl, ?_⟩) (by assumption) ?_
    rotate_left
    · intro w hSw
      try dsimp only at hSw
      go_simp
      all_goals with_reducible rfl
    try simp only [lay_all]
    refine wpAnyH_take (i := 8) (v := ?_) rfl (by kernel_rfl) (by kernel_rfl) (by kernel_rfl) (fun _ _ _ h => h) (Or.inl ⟨by rfl, ?_⟩) (by assumption) ?_
    rotate_left
    · intro w hSw
      try dsimp only at hSw
      go_simp
      all_goals with_reducible rfl
    try simp only [lay_all]
    refine wpAnyH_take (i := 9) (v := ?_) rfl (by kernel_rfl) (by kernel_rfl) (by kernel_rfl) (fun _ _ _ h => h) (Or.inl ⟨by rfl, ?_⟩) (by assumption) ?_
    rotate_left
    · intro w hSw
      try dsimp only at hSw
      go_simp
      all_goals with_reducible rfl
    try simp only [lay_all]
    refine wpAnyH_take (i := 10) (v := ?_) rfl (by kernel_rfl) (by kernel_rfl) (by kernel_rfl) (fun _ _ _ h => h) (Or.inl ⟨by rfl, ?_⟩) (by assumption) ?_
    rotate_left
    · intro w hSw
      try dsimp only at hSw
      go_simp
      all_goals with_reducible rfl
    try simp only [lay_all]
    refine wpAnyH_take (i := 11) (v := ?_) rfl (by kernel_rfl) (by kernel_rfl) (by kernel_rfl) (fun _ _ _ h => h) (Or.inl ⟨by rfl, ?_⟩) (by assumption) ?_
    rotate_left
    · intro w hSw
      try dsimp only at hSw
      go_simp
      all_goals with_reducible rfl
    try simp only [lay_all]
    refine wpAnyH_ready (rs := [12]) (by kernel_rfl) (by simp) ?_
    refine AllReadyH.cons rfl (fun K hK => ?_) AllReadyH.nil
    go_simp
    refine HWr.out.mono ?_
    rintro e w4 ⟨rfl, M4, F4, hd4, hm4, hf4, c4⟩
    have HX4 := hid (HX3.out.drew.disk c4 hd4 HL2.out hf4)
    have HM4 := hid hm4
    have HF4 := hid hf4
    have HC4 := hid c4
    have HS2 := hid (keep2 HS0.out c4 (fun q hq hm => by have h1 := HX3.out.MF; have h2 := HX3.out.2.2.2.1; subst hq; exact (h1.2.2 _ h2).1 (h1.1 _ hm)))
    clear hd4 hm4 hf4 c4
    go_wp2_with fail
    refine hK.out _ _ ?_ (fun hHeld => ?_)
    · first | exact HS2.out | assumption
    clear hK K
    try simp only [lay_all]
    refine wpAnyH_ready (rs := [13]) (by kernel_rfl) (by simp) ?_
    refine AllReadyH.cons rfl (fun K hK => ?_) AllReadyH.nil
    go_simp
    refine (told_any E2 _ HX4.out).mono ?_
    rintro e w5 ⟨rfl, hX5, c5⟩
    have HX5 := hid hX5
    have HC5 := hid c5
    have hs2 : w5.cell? ⟨pp, 0, none⟩ = some (.pointer (some ⟨dp, 0, none⟩)) ∧ w5.cell? ⟨pp, 1, none⟩ = some (.int .i64 (g : Int)) := by
      refine ⟨?_, ?_⟩ <;> (rw [cell_blk HX5.out.1.hp]; simp [toldP, HGg.out])
    have HS2 := hid hs2
    clear hs2
    clear hX5 c5
    go_wp2_with fail
    refine hK.out _ _ ?_ (fun hHeld => ?_)
    · first | exact HS2.out | assumption
    clear hK K
    try simp only [lay_all]
    refine wpAnyH_take (i := 14) (v := ?_) rfl (by kernel_rfl) (by kernel_rfl) (by kernel_rfl) (fun _ _ _ h => h) (Or.inl ⟨by rfl, ?_⟩) (by assumption) ?_
    rotate_left
    · intro w hSw
      try dsimp only at hSw
      go_simp
      all_goals with_reducible rfl
    try simp only [lay_all]
    refine wpAnyH_done (by kernel_rfl) ?_ _
    refine NoPanic.normal ?_
    have fin : Hid (ComPost w pp dp gb mb p M F O s.data.toList (.returned (.int .i64 (E2 : Int))) w5) := hid (by
      unfold ComPost
      have hr : rootW p.d (g + 1) B = (E2, D2) := by unfold rootW; rw [HE1.out, if_neg (by simp), HD1.out, HE2.out, if_pos HE.out, ← HE2.out, ← HD2.out]
      rw [HCm.out, hr, if_pos HE.out]
      have hz := HC3.out.size
      refine ⟨rfl, M4, F4, HX5.out, fun k hk => ?_, fun k hk => ?_, ?_⟩
      · rcases HM4.out k hk with h | h
        · exact .inl h
        · exact .inr (Nat.le_trans hz h)
      · rcases HF4.out k hk with h | h
        · exact .inl h
        · exact .inr (Nat.le_trans hz h)
      · exact (HC3.out.drew.then HC4.out (fun i _ h => .inl h)).then HC5.out (fun i _ h => .inr h))
    go_wp2_with fail
    go_ret
    exact fin.out
  obtain rfl : E2 = 0 := by omega
  clear hE2
  have HGM := hid hgm
  clear hgm
  · skip
    refine wp_region_noPanic ?_
    refine wp_region_held_drew (S := (fun W => W.cell? ⟨pp, 0, none⟩ = some (.pointer (some ⟨dp, 0, none⟩)) ∧ W.cell? ⟨pp, 1, none⟩ = some (.int .i64 (g : Int)))) (by kernel_rfl) HS0.out (fun hHeld => ?_)
    refine wpAnyH_take (i := 0) (v := ?_) rfl (by kernel_rfl) (by kernel_rfl) (by kernel_rfl) (fun _ _ _ h => h) (Or.inl ⟨by rfl, ?_⟩) (by assumption) ?_
    rotate_left
    · intro w hSw
      try dsimp only at hSw
      go_simp
      all_goals with_reducible rfl
    try simp only [lay_all]
    refine wpAnyH_take (i := 1) (v := ?_) rfl (by kernel_rfl) (by kernel_rfl) (by kernel_rfl) (fun _ _ _ h => h) (Or.inl ⟨by rfl, ?_⟩) (by assumption) ?_
    rotate_left
    · intro w hSw
      try dsimp only at hSw
      go_simp
      all_goals with_reducible rfl
    try simp only [lay_all]
    refine wpAnyH_take (i := 2) (v := ?_) rfl (by kernel_rfl) (by kernel_rfl) (by kernel_rfl) (fun _ _ _ h => h) (Or.inl ⟨by rfl, ?_⟩) (by assumption) ?_
    rotate_left
    · intro w hSw
      try dsimp only at hSw
      go_simp
      all_goals with_reducible rfl
    try simp only [lay_all]
    refine wpAnyH_take (i := 3) (v := ?_) rfl (by kernel_rfl) (by kernel_rfl) (by kernel_rfl) (fun _ _ _ h => h) (Or.inl ⟨by rfl, ?_⟩) (by assumption) ?_
    rotate_left
    · intro w hSw
      try dsimp only at hSw
      go_simp
      all_goals with_reducible rfl
    try simp only [lay_all]
    refine wpAnyH_take (i := 4) (v := ?_) rfl (by kernel_rfl) (by kernel_rfl) (by kernel_rfl) (fun _ _ _ h => h) (Or.inl ⟨by rfl, ?_⟩) (by assumption) ?_
    rotate_left
    · intro w hSw
      try dsimp only at hSw
      go_simp
      all_goals with_reducible rfl
    try simp only [lay_all]
    refine wpAnyH_take (i := 5) (v := ?_) rfl (by kernel_rfl) (by kernel_rfl) (by kernel_rfl) (fun _ _ _ h => h) (Or.inl ⟨by rfl, ?_⟩) (by assumption) ?_
    rotate_left
    · intro w hSw
      try dsimp only at hSw
      go_simp
      all_goals with_reducible rfl
    try simp only [lay_all]
    refine wpAnyH_take (i := 6) (v := ?_) rfl (by kernel_rfl) (by kernel_rfl) (by kernel_rfl) (fun _ _ _ h => h) (Or.inl ⟨by rfl, ?_⟩) (by assumption) ?_
    rotate_left
    · intro w hSw
      try dsimp only at hSw
      go_simp
      all_goals with_reducible rfl
    try simp only [lay_all]
    refine wpAnyH_take (i := 7) (v := ?_) rfl (by kernel_rfl) (by kernel_rfl) (by kernel_rfl) (fun _ _ _ h => h) (Or.inl ⟨by rfl, ?_⟩) (by assumption) ?_
    rotate_left
    · intro w hSw
      try dsimp only at hSw
      go_simp
      all_goals with_reducible rfl
    try simp only [lay_all]
    refine wpAnyH_take (i := 8) (v := ?_) rfl (by kernel_rfl) (by kernel_rfl) (by kernel_rfl) (fun _ _ _ h => h) (Or.inl ⟨by rfl, ?_⟩) (by assumption) ?_
    rotate_left
    · intro w hSw
      try dsimp only at hSw
      go_simp
      all_goals with_reducible rfl
    try simp only [lay_all]
    refine wpAnyH_take (i := 9) (v := ?_) rfl (by kernel_rfl) (by kernel_rfl) (by kernel_rfl) (fun _ _ _ h => h) (Or.inl ⟨by rfl, ?_⟩) (by assumption) ?_
    rotate_left
    · intro w hSw
      try dsimp only at hSw
      go_simp
      all_goals with_reducible rfl
    try simp only [lay_all]
    refine wpAnyH_take (i := 10) (v := ?_) rfl (by kernel_rfl) (by kernel_rfl) (by kernel_rfl) (fun _ _ _ h => h) (Or.inl ⟨by rfl, ?_⟩) (by assumption) ?_
    rotate_left
    · intro w hSw
      try dsimp only at hSw
      go_simp
      all_goals with_reducible rfl
    try simp only [lay_all]
    refine wpAnyH_take (i := 11) (v := ?_) rfl (by kernel_rfl) (by kernel_rfl) (by kernel_rfl) (fun _ _ _ h => h) (Or.inl ⟨by rfl, ?_⟩) (by assumption) ?_
    rotate_left
    · intro w hSw
      try dsimp only at hSw
      go_simp
      all_goals with_reducible rfl
    try simp only [lay_all]
    refine wpAnyH_ready (rs := [12]) (by kernel_rfl) (by simp) ?_
    refine AllReadyH.cons rfl (fun K hK => ?_) AllReadyH.nil
    go_simp
    refine HWr.out.mono ?_
    rintro e w4 ⟨rfl, M4, F4, hd4, hm4, hf4, c4⟩
    have HX4 := hid (HX3.out.drew.disk c4 hd4 HL2.out hf4)
    have HM4 := hid hm4
    have HF4 := hid hf4
    have HC4 := hid c4
    have HS2 := hid (keep2 HS0.out c4 (fun q hq hm => by have h1 := HX3.out.MF; have h2 := HX3.out.2.2.2.1; subst hq; exact (h1.2.2 _ h2).1 (h1.1 _ hm)))
    clear hd4 hm4 hf4 c4
    go_wp2_with fail
    refine hK.out _ _ ?_ (fun hHeld => ?_)
    · first | exact HS2.out | assumption
    clear hK K
    try simp only [lay_all]
    refine wpAnyH_ready (rs := [13]) (by kernel_rfl) (by simp) ?_
    refine AllReadyH.cons rfl (fun K hK => ?_) AllReadyH.nil
    go_simp
    refine (told_any 0 _ HX4.out).mono ?_
    rintro e w5 ⟨rfl, hX5, c5⟩
    have HX5 := hid hX5
    have HC5 := hid c5
    have hs2 : w5.cell? ⟨pp, 0, none⟩ = some (.pointer (some ⟨dp, 0, none⟩)) ∧ w5.cell? ⟨pp, 1, none⟩ = some (.int .i64 (g : Int)) := by
      refine ⟨?_, ?_⟩ <;> (rw [cell_blk HX5.out.1.hp]; simp [toldP, HGg.out])
    have HS2 := hid hs2
    clear hs2
    clear hX5 c5
    go_wp2_with fail
    refine hK.out _ _ ?_ (fun hHeld => ?_)
    · first | exact HS2.out | assumption
    clear hK K
    try simp only [lay_all]
    refine wpAnyH_take (i := 14) (v := ?_) rfl (by kernel_rfl) (by kernel_rfl) (by kernel_rfl) (fun _ _ _ h => h) (Or.inl ⟨by rfl, ?_⟩) (by assumption) ?_
    rotate_left
    · intro w hSw
      try dsimp only at hSw
      go_simp
      all_goals with_reducible rfl
    try simp only [lay_all]
    refine wpAnyH_done (by kernel_rfl) ?_ _
    refine NoPanic.normal ?_
    clear hw1 hw2 hw3
    have e5 : toldP { p with d := D2 } 0 = { p with d := D2 } := by unfold toldP; simp
    have hx5 := HX5.out
    rw [e5] at hx5
    have HX6 := hid hx5
    have hm5 : Fresh w M M4 := fun k hk => (HM4.out k hk).imp id (fun h => Nat.le_trans HC3.out.size h)
    have hf5 : Fresh w F F4 := fun k hk => (HF4.out k hk).imp id (fun h => Nat.le_trans HC3.out.size h)
    have HFr := hid (And.intro hm5 hf5)
    have HC5b : Hid (Ch (fun k => M k ∨ O k) w w5) := hid ((HC3.out.drew.then HC4.out (fun i _ h => .inl h)).then HC5.out (fun i _ h => .inr h))
    obtain ⟨E3, HE3⟩ : ∃ E, Hid ((flushD D2).1 = E) := ⟨_, hid rfl⟩
    obtain ⟨D3, HD3⟩ : ∃ D, Hid ((flushD D2).2 = D) := ⟨_, hid rfl⟩
    have HL3 : Hid (D3.L.length = ({ p with d := D2 } : Pg).d.L.length) := hid (by rw [← HD3.out]; exact flush_len _)
    have hfl := flush_any w5 HX6.out.2.1 (show D2.steps ≤ 1000000 by have := HPl2.out.1; omega) (show D2.wait.length ≤ 1000000 by have := HPl2.out.2; omega)
    rw [show ({ p with d := D2 } : Pg).d = D2 from rfl, HE3.out, HD3.out] at hfl
    have HFl3 := hid hfl
    have hr : rootW p.d (g + 1) B = (E3, D3) := by
      unfold rootW
      rw [HE1.out, if_neg (by simp), HD1.out, HE2.out, if_neg (by simp), HD2.out, ← HE3.out, ← HD3.out]
    have HRt := hid hr
    have up : ∀ (k : Nat), M4 k → M k ∨ w.heap.size ≤ k := fun k hk => hm5 k hk
    have HUp := hid up
    have c0 := cell_blk HX6.out.1.hp 0
    simp at c0
    clear e5 hx5 hfl hr hm5 hf5 up
    go_wp2_with fail
    refine HFl3.out.mono ?_
    rintro e w6 ⟨rfl, hd6, c6⟩
    have HX7 := hid (HX6.out.disk c6 hd6 HL3.out (Fresh.refl _ _))
    have HC6 : Hid (Ch (fun k => M k ∨ O k) w w6) := hid (HC5b.out.then c6 (fun i hi h => by
      rcases HUp.out i h with h | h
      · exact .inl h
      · omega))
    clear hd6 c6 c0
    go_wp2_with fail
    refine (told_any E3 _ HX7.out).mono ?_
    rintro e w7 ⟨rfl, hX8, c7⟩
    have HX8 := hid hX8
    have HC7 := hid (HC6.out.then c7 (fun i _ h => .inr h))
    clear hX8 c7
    by_cases hE3 : ¬ E3 = 0
    · have hEb : ((E3 : Int) == 0) = false := by simpa using hE3
      have HE := hid hE3
      clear hE3
      have fin : Hid (ComPost w pp dp gb mb p M F O s.data.toList (.returned (.int .i64 (E3 : Int))) w7) := hid (by
        unfold ComPost
        rw [HCm.out, HRt.out, if_pos HE.out]
        exact ⟨rfl, M4, F4, HX8.out, HFr.out.1, HFr.out.2, HC7.out⟩)
      go_wp2_with fail
      go_ret
      exact fin.out
    obtain rfl : E3 = 0 := by omega
    have e8 : toldP { p with d := D3 } 0 = { p with d := D3 } := by unfold toldP; simp
    have hx8 : PgX w7 pp dp gb mb { p with d := D3 } M4 F4 O := by rw [← e8]; exact HX8.out
    have c1 := cell_blk hx8.1.hp 1
    have c2 := cell_blk hx8.1.hp 2
    have f1 := frozen_blk hx8.1.hp 1
    have f2 := frozen_blk hx8.1.hp 2
    simp at c1 c2
    rw [HGg.out] at c1
    have HX9 : Hid (∀ W, W = (w7.setCell ⟨pp, 1, none⟩ (.int .i64 ((g : Int) + 1))).setCell ⟨pp, 2, none⟩ (.string s) → PgX W pp dp gb mb { p with d := D3, gen := g + 1, root := s.data.toList } M4 F4 O ∧ Ch (fun k => M k ∨ O k) w W) := hid (by
      rintro W rfl
      obtain ⟨h1, h2, h3, h4, h5, h6, h7⟩ := hx8
      refine ⟨PgAt.head h1 h2 h3 h4 h5 h6 h7 (g + 1) s.data.toList p.dead HGn.out ?_ (fun k hk => by rw [Below.heap_setCell _ _ _ _ hk, Below.heap_setCell _ _ _ _ hk]) (by simp [World.setCell]), ?_⟩
      · rw [heap_set (heap_set h1.hp 1 _) 2 _, str_back]
        rfl
      · exact (HC7.out.setCell (fun _ => .inr h4) _).setCell (fun _ => .inr h4) _)
    have HG2 : Hid ((g : Int) + 1 ≤ 4611686018427387904) := hid (by have := HGn.out; omega)
    obtain ⟨n, HN⟩ : ∃ n, Hid (p.pages.length = n) := ⟨_, hid rfl⟩
    rw [HN.out] at n2
    have c3w := cell_blk (HX9.out _ rfl).1.1.hp 3
    simp at c3w
    rw [HN.out] at c3w
    clear e8 hx8 hE3
    go_wp2_with fail
    have HX9 := hid (HX9.out _ rfl)
    clear c3w c1 c2 f1 f2
    obtain ⟨w8, hw8⟩ : ∃ w8, w8 = (w7.setCell ⟨pp, 1, none⟩ (.int .i64 ((g : Int) + 1))).setCell ⟨pp, 2, none⟩ (.string s) := ⟨_, rfl⟩
    rw [← hw8] at HX9 ⊢
    clear hw8
    go_loopw [84] (fun i wr => ∃ j : Nat, i = .int .i64 (j : Int) ∧ j ≤ n ∧ Hid (PgX wr pp dp gb mb { p with d := D3, gen := g + 1, root := s.data.toList, pages := till (cmF (g + 1)) p.pages j } M4 F4 O) ∧ Hid (Ch (fun k => M k ∨ O k) w wr)) (fun i _ => n - (intOf i).toNat)
    case atStart => exact ⟨0, rfl, Nat.zero_le _, hid (by rw [till_zero]; exact HX9.out.1), hid HX9.out.2⟩
    case round =>
      obtain ⟨j, rfl, hj, HI, HC⟩ := hrel
      have c3 := cell_blk HI.out.1.hp 3
      have c1 := cell_blk HI.out.1.hp 1
      simp only [till_length] at c3
      simp at c3 c1
      rw [HN.out] at c3
      by_cases hlt : j < n
      · obtain ⟨x, HXx⟩ : ∃ x, Hid (p.pages[j]? = some x) := ⟨p.pages[j]'(by rw [HN.out]; exact hlt), hid (List.getElem?_eq_getElem _)⟩
        have hxx : ({ p with d := D3, gen := g + 1, root := s.data.toList, pages := till (cmF (g + 1)) p.pages j } : Pg).pages[j]? = some x := by
          show (till (cmF (g + 1)) p.pages j)[j]? = some x
          rw [till_get _ _ _ (by rw [HN.out]; exact hj)]; exact HXx.out
        obtain ⟨q1, q2, q3, q4, q5⟩ := HI.out.cells hxx
        have HXX := hid hxx
        have hppz := blk_lt HI.out.1.hp
        have hnp : ¬ pp = wr.heap.size := by omega
        have hng : ¬ gb = wr.heap.size := by omega
        have hj0 : (0 : Int) ≤ (j : Int) := Int.natCast_nonneg _
        have hj1 : (j : Int) < (n : Int) := by omega
        clear hxx
        by_cases h2 : x.1 = 2
        · have HF : Hid (cmF (g + 1) x = (1, x.2)) := hid (by unfold cmF; rw [if_pos h2])
          obtain ⟨g1, g2⟩ := HI.out.page1 j 1 x HXX.out
          have HNext : Hid (∀ (v : Value) (W : World), W = (wr.setCell ⟨gb, j * 2, none⟩ (.int .i64 1)).alloc (.cells #[v, .int .i64 (x.2 : Int)] 155) → PgX W pp dp gb mb { p with d := D3, gen := g + 1, root := s.data.toList, pages := till (cmF (g + 1)) p.pages (j + 1) } M4 F4 O ∧ Ch (fun k => M k ∨ O k) w W) := hid (by
            rintro v W rfl
            rw [← till_succ _ _ _ _ HXx.out, HF.out]
            have g3 := (Ch.refl (fun _ => False) (wr.setCell ⟨gb, j * 2, none⟩ (.int .i64 1))).alloc (.cells #[v, .int .i64 (x.2 : Int)] 155)
            exact ⟨PgX.ch g1 g3 (fun _ _ h => h) (fun _ _ h => h), (HC.out.then g2 (fun _ _ h => .inr h)).alloc _⟩)
          have h2i : (x.1 : Int) = 2 := by omega
          rw [h2i] at q1
          clear g1 g2 h2 h2i
          go_wp2
          go_roundw
          case rel => exact ⟨j + 1, by go_num, by omega, hid (HNext.out _ _ rfl).1, hid (HNext.out _ _ rfl).2⟩
          case measure => simp [intOf]; omega
        · by_cases h3 : x.1 = 3
          · have HF : Hid (cmF (g + 1) x = (4, g + 1)) := hid (by unfold cmF; rw [if_neg h2, if_pos h3])
            obtain ⟨g1, g2⟩ := HI.out.page2 j (4, g + 1) HGn.out
            have HNext : Hid (∀ (v : Value) (W : World), Ch (fun _ => False) ((wr.setCell ⟨gb, j * 2, none⟩ (.int .i64 4)).setCell ⟨gb, j * 2 + 1, none⟩ (.int .i64 ((g : Int) + 1))) W → PgX W pp dp gb mb { p with d := D3, gen := g + 1, root := s.data.toList, pages := till (cmF (g + 1)) p.pages (j + 1) } M4 F4 O ∧ Ch (fun k => M k ∨ O k) w W) := hid (by
              intro v W hW
              rw [← till_succ _ _ _ _ HXx.out, HF.out]
              exact ⟨PgX.ch g1 hW (fun _ _ h => h) (fun _ _ h => h), (HC.out.then g2 (fun _ _ h => .inr h)).trans (hW.mono (fun _ _ h => h.elim))⟩)
            have h3i : (x.1 : Int) = 3 := by omega
            rw [h3i] at q1
            clear g1 g2 h2 h3 h3i
            go_wp2_with fail
            refine region_tail 11 (by kernel_rfl) (by kernel_rfl) ?_
            simp only [List.take_succ_cons, List.take_zero, List.drop_succ_cons, List.drop_zero]
            repeat still_step
            refine wpStill_nil ?_
            go_wp2
            go_roundw
            case rel => exact ⟨j + 1, by go_num, by omega, hid (HNext.out (.int .i64 0) _ (((Ch.refl _ _).alloc _).drew)).1, hid (HNext.out (.int .i64 0) _ (((Ch.refl _ _).alloc _).drew)).2⟩
            case measure => simp [intOf]; omega
          · have HF : Hid (cmF (g + 1) x = x) := hid (by unfold cmF; rw [if_neg h2, if_neg h3])
            have ca := (Ch.refl (fun _ => False) wr).alloc (.cells #[.int .i64 (x.1 : Int), .int .i64 (x.2 : Int)] 155)
            have HNext : Hid (PgX (wr.alloc (.cells #[.int .i64 (x.1 : Int), .int .i64 (x.2 : Int)] 155)) pp dp gb mb { p with d := D3, gen := g + 1, root := s.data.toList, pages := till (cmF (g + 1)) p.pages (j + 1) } M4 F4 O) := hid (by
              rw [till_same _ _ _ _ HXx.out HF.out]; exact HI.out.ch ca (fun _ _ h => h) (fun _ _ h => h))
            have h2b : ((x.1 : Int) == 2) = false := by rw [beq_eq_false_iff_ne]; omega
            have h3b : ((x.1 : Int) == 3) = false := by rw [beq_eq_false_iff_ne]; omega
            clear h2 h3 ca
            go_wp2
            go_roundw
            case rel => exact ⟨j + 1, by go_num, by omega, HNext, hid (HC.out.alloc _)⟩
            case measure => simp [intOf]; omega
      · obtain rfl : j = n := by omega
        have hfin : PgX wr pp dp gb mb { p with d := D3, gen := g + 1, root := s.data.toList, pages := p.pages.map (cmF (g + 1)) } M4 F4 O := by
          have := HI.out
          rw [← HN.out, till_all] at this
          exact this
        have HSe := hid (settle_any wr hfin)
        clear hfin
        go_wp2_with fail
        refine HSe.out.mono ?_
        rintro e w9 ⟨rfl, hX9, c9⟩
        have fin : Hid (ComPost w pp dp gb mb p M F O s.data.toList (.returned (.int .i64 0)) w9) := hid (by
          unfold ComPost
          rw [HCm.out, HRt.out, if_neg (by simp)]
          exact ⟨rfl, M4, F4, hX9, HFr.out.1, HFr.out.2, HC.out.then c9 (fun i _ h => .inr h)⟩)
        clear hX9 c9
        go_wp2_with fail
        go_ret
        exact fin.out
end

section
open Go.RowKit Go.MapKept Go.Maps

/-- A map of ints in memory: what it answers, what it has. -/
def PinW (w : World) (mb n : Nat) (f : Int → Int) (h : Int → Bool) : Prop :=
  ∃ D : DataW Unit, w.ownsMap Try.prog 3 (plainElem Try.prog 3) mb n D ∧ Maps.IsMap D ∧
    ∀ g : Int, (Lit.int .i64 g).wf = true → D.atKey (.int .i64 g) (.lit (.int .i64 0)) = .lit (.int .i64 (f g)) ∧ Maps.has D (.int .i64 g) = h g
theorem PinAt.gen {w : World} {mb n : Nat} {pins : List Nat} (h : PinAt w mb n pins) : PinW w mb n (fun g => (cnt pins g : Int)) (fun g => decide (cnt pins g ≠ 0)) := h
theorem PinW.back {w : World} {mb n : Nat} {pins : List Nat} {f : Int → Int} {h : Int → Bool} (hp : PinW w mb n f h) (hf : ∀ g, (Lit.int .i64 g).wf = true → f g = (cnt pins g : Int)) (hh : ∀ g, (Lit.int .i64 g).wf = true → h g = decide (cnt pins g ≠ 0)) : PinAt w mb n pins := by
  obtain ⟨D, h1, h2, h3⟩ := hp
  exact ⟨D, h1, h2, fun g hg => by rw [← hf g hg, ← hh g hg]; exact h3 g hg⟩
theorem Try.zero3 (w : World) : (zeroValue 3).run Try.prog w = .ok (.int .i64 0) w := by kernel_rfl
theorem PinW.ask {w : World} {mb n : Nat} {f : Int → Int} {h : Int → Bool} (hp : PinW w mb n f h) (g : Int) (hw : (Lit.int .i64 g).wf = true) : (Instr.lookup 151 (.map (some mb)) (.int .i64 g) false).run Try.prog w = .ok (.int .i64 (f g)) w := by
  obtain ⟨D, h1, _, h3⟩ := hp
  obtain ⟨c, hrun, hat, _⟩ := h1.lookup_int (int_keyed Try.underlying3) Try.underlying151 Try.underlying3 (Try.zero3 w) (keyOf_int_mk Try.underlying3 hw)
  rw [(h3 g hw).1] at hat
  simp only [DataW.lit.injEq, Lit.int.injEq, true_and] at hat
  rw [hrun, hat]
theorem PinW.put {w : World} {mb n : Nat} {f : Int → Int} {h : Int → Bool} (hp : PinW w mb n f h) (hn : n < maxLen) (g v : Int) (hw : (Lit.int .i64 g).wf = true) (hv : (Lit.int .i64 v).wf = true) :
    ∃ w', (Instr.mapUpdate 151 (.map (some mb)) (.int .i64 g) (.int .i64 v)).run Try.prog w = .ok () w' ∧ PinW w' mb (n + 1) (fun k => if k = g then v else f k) (fun k => if k = g then true else h k) ∧ Ch (fun k => k = mb) w w' := by
  obtain ⟨D, h1, h2, h3⟩ := hp
  have K := int_keyed (P := Try.prog) Try.underlying3
  have hkey := keyOf_int_mk (P := Try.prog) Try.underlying3 hw
  obtain ⟨w', r1, r2, r3⟩ := h1.update K Try.underlying151 hn hkey (plainElem_int Try.underlying3 hv)
  refine ⟨w', r1, ⟨_, r2, ?_, fun k hk => ?_⟩, (Ch.refl _ w).grown r3 (fun q hq _ => by cases hq; rfl)⟩
  · obtain ⟨es, rfl⟩ := h2; exact ⟨_, rfl⟩
  · by_cases hkg : k = g
    · subst hkg
      simp only [if_true]
      exact ⟨atKey_put_same h2 (K.key hkey) _ _, has_put_same h2 (K.key hkey) _⟩
    · simp only [if_neg hkg]
      have hne : (Lit.int .i64 k) ≠ Lit.int .i64 g := by intro e; cases e; exact hkg rfl
      rw [atKey_put_other hne, has_put_other hne]
      exact h3 k hk
/-- delete, its run known, as an operation of a list. -/
theorem wpList_delete_run {P : Program} {w : World} {ops : Array Oper} {rest : List Oper} {o : Oper} {a : Act} {Q : Exit → Act → World → Prop}
    (hg : o.guard = none) (x y : Operand) (tx ty : TypeId) (hop : o.op = Op.call { callee := Callee.builtin .delete, args := #[x, y], argTypes := #[tx, ty] })
    (v : Value) (w' : World) (hrun : (Builtin.delete_ #[tx, ty] o.type #[a.eval x, a.eval y]).run P w = .ok v w')
    (hK : wpList P ops Q rest (a.put o.dst v) w') : wpList P ops Q (o :: rest) a w := by
  refine wpList_plain hg fun K hK' => ?_
  unfold Oper.wp
  simp [execOp, hop, resolve, invoke, builtin, hrun, Result.andThen]
  exact hK' _ _ hK
theorem ch_of_turned {w w' : World} {b : Nat} (h : w.mapTurned w' b) : Ch (fun k => k = b) w w' := (Ch.refl _ w).grown (h.grown) (fun q hq _ => by cases hq; rfl)
theorem PinW.del {w : World} {mb n : Nat} {f : Int → Int} {h : Int → Bool} (hp : PinW w mb n f h) (g : Int) (hw : (Lit.int .i64 g).wf = true) (ty : TypeId) :
    ∃ w', (Builtin.delete_ #[151, 3] ty #[.map (some mb), .int .i64 g]).run Try.prog w = .ok (.tuple #[]) w' ∧ PinW w' mb n (fun k => if k = g then 0 else f k) (fun k => if k = g then false else h k) ∧ Ch (fun k => k = mb) w w' := by
  obtain ⟨D, h1, h2, h3⟩ := hp
  have K := int_keyed (P := Try.prog) Try.underlying3
  have hkey := keyOf_int_mk (P := Try.prog) Try.underlying3 hw
  obtain ⟨w', r1, r2, r3⟩ := h1.drop K Try.underlying151 hkey ty
  refine ⟨w', r1, ⟨_, r2, ?_, fun k hk => ?_⟩, ch_of_turned r3⟩
  · obtain ⟨es, rfl⟩ := h2; exact ⟨_, rfl⟩
  · by_cases hkg : k = g
    · subst hkg
      simp only [if_true]
      exact ⟨atKey_del_same _, has_del_same⟩
    · simp only [if_neg hkg]
      have hne : (Lit.int .i64 k) ≠ Lit.int .i64 g := by intro e; cases e; exact hkg rfl
      rw [atKey_del_other hne, has_del_other hne]
      exact h3 k hk
theorem PinW.frame {w w' : World} {mb n : Nat} {f : Int → Int} {h : Int → Bool} (hp : PinW w mb n f h) (hb : w'.heap[mb]? = w.heap[mb]?) : PinW w' mb n f h := by
  obtain ⟨D, ⟨es, clock, h1, r⟩, h⟩ := hp
  exact ⟨D, ⟨es, clock, hb.trans h1, r⟩, h⟩

/-- The pins alone have turned. -/
theorem PgX.pinned {w w' : World} {pp dp gb mb : Nat} {p : Pg} {M F O : Nat → Prop} (h : PgX w pp dp gb mb p M F O) (hc : Ch (fun k => k = mb) w w') (pins : List Nat) (ops : Nat) (hm : PinAt w' mb ops pins) (hn : ∀ g ∈ pins, g ≤ 4611686018427387904) (hl : pins.length ≤ ops) :
    PgX w' pp dp gb mb { p with pins := pins, ops := ops } M F O := by
  obtain ⟨h1, h2, h3, h4, h5, h6, h7⟩ := h
  have e1 : pp ≠ mb := fun e => by
    obtain ⟨D, ⟨es, clock, hb, _⟩, _⟩ := h1.hm
    have := h1.hp.symm.trans (e ▸ hb)
    cases this
  have e2 : gb ≠ mb := fun e => by
    obtain ⟨D, ⟨es, clock, hb, _⟩, _⟩ := h1.hm
    have := h1.hg.symm.trans (e ▸ hb)
    cases this
  exact ⟨⟨h1.n1, h1.n2, h1.gen, h1.pg, hn, hl, (hc.block pp (h7 _ h4).2 e1).trans h1.hp, (hc.block gb (h7 _ h5).2 e2).trans h1.hg, hm⟩, h2.ch hc (fun k hf e => (h7 mb h6).1 (e ▸ hf)), h3, h4, h5, h6, fun k hk => ⟨(h7 k hk).1, Nat.lt_of_lt_of_le (h7 k hk).2 hc.size⟩⟩

theorem cnt_snoc (pins : List Nat) (g : Nat) (k : Int) : cnt (pins ++ [g]) k = cnt pins k + if k = (g : Int) then 1 else 0 := by
  unfold cnt
  rw [List.filter_append, List.length_append]
  by_cases h : k = (g : Int)
  · rw [if_pos h]; simp [h]
  · rw [if_neg h]
    have : ¬ (g : Int) = k := fun e => h e.symm
    simp [this]
theorem cnt_le (pins : List Nat) (k : Int) : cnt pins k ≤ pins.length := List.length_filter_le _ _
theorem cnt_erase (pins : List Nat) (g : Nat) (k : Int) : cnt (pins.erase g) k = if k = (g : Int) then cnt pins k - 1 else cnt pins k := by
  induction pins with
  | nil => simp [cnt]
  | cons x l ih =>
    by_cases hx : x = g
    · subst hx
      rw [List.erase_cons_head]
      unfold cnt
      rw [List.filter_cons]
      by_cases h : k = (x : Int)
      · rw [if_pos h, if_pos (by simp [h]), List.length_cons]; omega
      · rw [if_neg h, if_neg (by simp; exact fun e => h e.symm)]
    · rw [List.erase_cons_tail (by simpa using hx)]
      unfold cnt at ih ⊢
      rw [List.filter_cons, List.filter_cons]
      by_cases hk : (x : Int) = k
      · have hkg : ¬ k = (g : Int) := fun e => hx (by omega)
        rw [if_neg hkg] at ih ⊢
        rw [if_pos (by simpa using hk), if_pos (by simpa using hk), List.length_cons, List.length_cons, ih]
      · have hxk : ((x : Int) == k) = false := by simpa using hk
        simp only [hxk, Bool.false_eq_true, if_false]
        exact ih

def pinP (p : Pg) : Pg := { p with pins := p.pins ++ [p.gen], ops := p.ops + 1 }
theorem pin_none (w : World) : Calls Try.prog 65 #[.pointer none] w fun e w' => e = .returned (.int .i64 0) ∧ w = w' := by
  go_enter Try.func65, Try.ntmps65
  go_wp2
  go_ret
  exact ⟨rfl, rfl⟩
set_option maxRecDepth 20000 in
set_option maxHeartbeats 1000000 in
theorem pin_any {pp dp gb mb : Nat} {p : Pg} {M F O : Nat → Prop} (w : World) (h : PgX w pp dp gb mb p M F O) (hops : p.ops ≤ 1000000) :
    Calls Try.prog 65 #[.pointer (some ⟨pp, 0, none⟩)] w fun e w' => e = .returned (.int .i64 (p.gen : Int)) ∧ PgX w' pp dp gb mb (pinP p) M F O ∧ Ch O w w' := by
  have HX := hid h
  have c0 := cell_blk h.1.hp 0
  have c1 := cell_blk h.1.hp 1
  have c4 := cell_blk h.1.hp 4
  simp at c0 c1 c4
  have hgen := h.1.gen
  have hpc := h.1.pc
  obtain ⟨g, HG⟩ : ∃ g, Hid (p.gen = g) := ⟨_, hid rfl⟩
  rw [HG.out] at c1 hgen ⊢
  have hw : (Lit.int .i64 (g : Int)).wf = true := int_wf (by omega) (by omega)
  have hcl := cnt_le p.pins (g : Int)
  have hpd := (h.drew.1.hm).gen
  have hask := hpd.ask (g : Int) hw
  obtain ⟨w2, hput, hW2, hc2⟩ := hpd.put (by unfold maxLen; omega) (g : Int) ((cnt p.pins (g : Int) : Int) + 1) hw (int_wf (by omega) (by omega))
  have fin : Hid (PgX w2 pp dp gb mb (pinP p) M F O ∧ Ch O w w2) := hid (by
    refine ⟨h.drew.pinned hc2 _ _ (hW2.back (fun k _ => ?_) (fun k _ => ?_)) ?_ ?_, ((Ch.refl O w).drew).then hc2 (fun i _ e => by subst e; exact h.2.2.2.2.2.1)⟩
    · rw [HG.out, cnt_snoc]
      by_cases hk : k = (g : Int)
      · simp [hk]
      · simp [hk]
    · rw [HG.out, cnt_snoc]
      by_cases hk : k = (g : Int)
      · simp [hk]
      · simp [hk]
    · intro x hx
      rcases List.mem_append.1 hx with hx | hx
      · exact h.1.pn x hx
      · simp at hx; subst hx; exact h.1.gen
    · show (p.pins ++ [p.gen]).length ≤ p.ops + 1
      rw [List.length_append]; simp; omega)
  have hwg : w2.cell? ⟨pp, 1, none⟩ = some (.int .i64 (g : Int)) := by
    have := cell_blk fin.out.1.1.hp 1
    simp at this
    rw [this]
    show some (Value.int IntKind.i64 ((pinP p).gen : Int)) = _
    rw [show (pinP p).gen = p.gen from rfl, HG.out]
  obtain ⟨cn, hcn⟩ : ∃ cn : Int, cn = (cnt p.pins (g : Int) : Int) := ⟨_, rfl⟩
  have hcn1 : 0 ≤ cn := by omega
  have hcn2 : cn ≤ 1000000 := by omega
  simp only [← hcn] at hask hput
  clear h hpd hW2 hc2 hcn hcl
  go_enter Try.func65, Try.ntmps65
  go_wp2_with fail
  refine region_tail 10 (by kernel_rfl) (by kernel_rfl) ?_
  simp only [List.take_succ_cons, List.take_zero, List.drop_succ_cons, List.drop_zero]
  repeat still_step
  refine wpStill_nil ?_
  go_wp2
  rw [hput]
  go_wp2
  go_ret
  exact ⟨rfl, fin.out.1, fin.out.2⟩

/-- Unpin. -/
def unpinP (p : Pg) (g : Int) : Nat × Pg := if cnt p.pins g = 0 then (7, p) else (0, settleP { p with pins := p.pins.erase g.toNat, ops := p.ops + 1 })
theorem unpin_none (g : Int) (w : World) : Calls Try.prog 67 #[.pointer none, .int .i64 g] w fun e w' => e = .returned (.int .i64 1) ∧ w = w' := by
  go_enter Try.func67, Try.ntmps67
  go_wp2
  go_ret
  exact ⟨rfl, rfl⟩
set_option maxRecDepth 20000 in
set_option maxHeartbeats 2000000 in
theorem unpin_any {pp dp gb mb : Nat} {p : Pg} {M F O : Nat → Prop} (g : Int) (w : World) (h : PgX w pp dp gb mb p M F O) (hops : p.ops ≤ 1000000) (hw : (Lit.int .i64 g).wf = true) :
    Calls Try.prog 67 #[.pointer (some ⟨pp, 0, none⟩), .int .i64 g] w fun e w' => e = .returned (.int .i64 ((unpinP p g).1 : Nat)) ∧ PgX w' pp dp gb mb (unpinP p g).2 M F O ∧ Ch O w w' := by
  have HX := hid h
  have c0 := cell_blk h.1.hp 0
  have c4 := cell_blk h.1.hp 4
  simp at c0 c4
  have hpc := h.1.pc
  have hcl := cnt_le p.pins g
  have hask := (h.1.hm).gen.ask g hw
  by_cases h0 : cnt p.pins g = 0
  · have e : unpinP p g = (7, p) := by unfold unpinP; rw [if_pos h0]
    rw [e]
    rw [h0] at hask
    clear h e h0 hcl
    go_enter Try.func67, Try.ntmps67
    go_wp2
    go_ret
    exact ⟨rfl, HX.out, Ch.refl _ _⟩
  · obtain ⟨x, hx, hxg⟩ := cnt_neg h0
    have HE : Hid (unpinP p g = (0, settleP { p with pins := p.pins.erase g.toNat, ops := p.ops + 1 })) := hid (by unfold unpinP; rw [if_neg h0])
    rw [HE.out]
    have htn : g.toNat = x := by omega
    obtain ⟨w2, hput, hW2, hc2⟩ := (h.1.hm).gen.put (by unfold maxLen; omega) g ((cnt p.pins g : Int) - 1) hw (int_wf (by omega) (by omega))
    have hask2 := hW2.ask g hw
    simp only [if_true] at hask2
    obtain ⟨cn, hcn⟩ : ∃ cn : Int, cn = (cnt p.pins g : Int) := ⟨_, rfl⟩
    have hcn1 : 1 ≤ cn := by omega
    have hcn2 : cn ≤ 1000000 := by omega
    have hcb : (cn == 0) = false := by rw [beq_eq_false_iff_ne]; omega
    have hO := h.2.2.2.2.2.1
    have hpp : pp ≠ mb := fun e => by
      obtain ⟨D, ⟨es, clock, hb, _⟩, _⟩ := h.1.hm
      have := h.1.hp.symm.trans (e ▸ hb)
      cases this
    have c4b : w2.cell? ⟨pp, 4, none⟩ = some (.map (some mb)) := by rw [World.cell?_of_block (hc2.block pp (blk_lt h.1.hp) hpp)]; exact c4
    have hlen : (p.pins.erase g.toNat).length ≤ p.ops + 1 := Nat.le_trans (List.length_erase_le) (by omega)
    have hmem : ∀ k ∈ p.pins.erase g.toNat, k ≤ 4611686018427387904 := fun k hk => h.1.pn k (List.mem_of_mem_erase hk)
    by_cases h1 : cn = 1
    · obtain ⟨w3, hdel, hW3, hc3⟩ := hW2.del g hw 0
      have hat : PgX w3 pp dp gb mb { p with pins := p.pins.erase g.toNat, ops := p.ops + 1 } M F O := h.pinned (hc2.trans hc3) _ _ (hW3.back (fun k _ => by
          rw [htn, cnt_erase]
          by_cases hk : k = g
          · simp [hk, hxg]; omega
          · have : ¬ k = (x : Int) := by omega
            simp [hk, this]) (fun k _ => by
          rw [htn, cnt_erase]
          by_cases hk : k = g
          · simp [hk, hxg]; omega
          · have : ¬ k = (x : Int) := by omega
            simp [hk, this])) hmem hlen
      have HSe := hid (settle_any w3 hat)
      have HC3 : Hid (Ch O w w3) := hid ((hc2.trans hc3).mono (fun k _ e => by subst e; exact hO))
      rw [← hcn, h1] at hask hput hask2
      rw [show (1 : Int) - 1 = 0 from rfl] at hput hask2
      have HDel := hid hdel
      clear h hW2 hc2 hW3 hc3 hat hcn hcl h0 hx hxg htn hlen hmem h1 hcb hdel
      go_enter Try.func67, Try.ntmps67
      go_wp2_with (at_delete; refine wpList_delete_run rfl (.tmp 40) (.tmp 41) 151 3 rfl _ _ HDel.out ?_)
      refine HSe.out.mono ?_
      rintro e w9 ⟨rfl, hX9, c9⟩
      have HX9 := hid hX9
      have HC9 := hid (HC3.out.then c9 (fun _ _ h => h))
      clear hX9 c9
      go_wp2_with fail
      go_ret
      exact ⟨rfl, HX9.out, HC9.out⟩
    · have h1b : (cn - 1 == 0) = false := by rw [beq_eq_false_iff_ne]; omega
      have hat : PgX w2 pp dp gb mb { p with pins := p.pins.erase g.toNat, ops := p.ops + 1 } M F O := h.pinned hc2 _ _ (hW2.back (fun k _ => by
          rw [htn, cnt_erase]
          by_cases hk : k = g
          · simp [hk, hxg]; omega
          · have : ¬ k = (x : Int) := by omega
            simp [hk, this]) (fun k _ => by
          rw [htn, cnt_erase]
          by_cases hk : k = g
          · simp [hk, hxg]; omega
          · have : ¬ k = (x : Int) := by omega
            simp [hk, this])) hmem hlen
      have HSe := hid (settle_any w2 hat)
      have HC2 : Hid (Ch O w w2) := hid (hc2.mono (fun k _ e => by subst e; exact hO))
      rw [← hcn] at hask hput hask2
      clear h hW2 hc2 hat hcn hcl h0 hx hxg htn hlen hmem h1
      go_enter Try.func67, Try.ntmps67
      go_wp2_with fail
      refine HSe.out.mono ?_
      rintro e w9 ⟨rfl, hX9, c9⟩
      have HX9 := hid hX9
      have HC9 := hid (HC2.out.then c9 (fun _ _ h => h))
      clear hX9 c9
      go_wp2_with fail
      go_ret
      exact ⟨rfl, HX9.out, HC9.out⟩
end

section
open Go.RowKit Go.MapKept Go.Maps

theorem format_none (w : World) : Calls Try.prog 53 #[.pointer none] w fun e w' => e = .returned (.int .i64 1) ∧ Ch (fun _ => False) w w' := by
  go_enter Try.func53, Try.ntmps53
  go_wp2_with (go_at_call 94; refine (fit_none _).mono ?_; rintro e w' ⟨rfl, rfl⟩)
  go_ret
  exact ⟨rfl, (Ch.refl _ _).alloc _⟩

theorem disk_ltF {w : World} {p : Nat} {d : Dk} {M F : Nat → Prop} (h : DiskAt w p d M F) : (∀ k, F k → k < w.heap.size) ∧ ∀ k, M k → F k := by
  obtain ⟨_, _, _, _, _, _, _, _, h4, h5⟩ := h; exact ⟨h5, h4⟩
theorem ch_fresh {w4 wr w5 : World} {M M' : Nat → Prop} (hc : Ch M w4 wr) (h5 : Ch M' wr w5) (hf : Fresh w4 M M') : Ch M w4 w5 :=
  hc.then h5 (fun i hi h => (hf i h).elim id (fun h => absurd hi (by omega)))
/-- Steps one behind another, till one fails. -/
def chD : List (Dk → Nat × Dk) → Dk → Nat × Dk
  | [], d => (0, d)
  | f :: fs, d => if (f d).1 ≠ 0 then f d else chD fs (f d).2
def fmtL (R : List UInt8) : List (Dk → Nat × Dk) := [fun d => writeD d 0 (zeros 512), fun d => writeD d 1 (zeros 512), flushD, fun d => writeD d 1 R, flushD]
/-- Format: the error, the disk. -/
def formatD (d : Dk) : Nat × Dk := if d.L.length < 4 then (2, d) else chD (fmtL (srootL 1 [])) d

/-- What a step of the disk does. -/
def StepPost (dp : Nat) (f : Dk → Nat × Dk) (d : Dk) (M F : Nat → Prop) (w : World) (e : Ending) (w' : World) : Prop :=
  e = .returned (.int .i64 ((f d).1 : Nat)) ∧ ∃ M' F', DiskAt w' dp (f d).2 M' F' ∧ Fresh w M M' ∧ Fresh w F F' ∧ Ch M w w'
theorem flush_step {dp : Nat} {d : Dk} {M F : Nat → Prop} (w : World) (h : DiskAt w dp d M F) (hst : d.steps ≤ 1000000) (hwt : d.wait.length ≤ 1000000) : Calls Try.prog 23 #[.pointer (some ⟨dp, 0, none⟩)] w (StepPost dp flushD d M F w) :=
  (flush_any w h hst hwt).mono fun _ _ ⟨h1, h2, h3⟩ => ⟨h1, M, F, h2, Fresh.refl _ _, Fresh.refl _ _, h3⟩
theorem fmt95 {dp b0 b1 : Nat} {d : Dk} {M F : Nat → Prop} {x : Option Addr} {n cap : Nat} {B : List UInt8} (w : World) (h : DiskAt w dp d M F) (hst : d.steps ≤ 1000000) (hwt : d.wait.length ≤ 1000000)
    (h0 : w.cell? ⟨b0, 0, none⟩ = some (.pointer (some ⟨dp, 0, none⟩))) (h1 : w.cell? ⟨b1, 0, none⟩ = some (.slice x n cap)) (hb : Bts w (.slice x n cap) B) (hl : B.length = n) (hn : ∀ k, (Value.slice x n cap).ownBlock = some k → ¬ M k) :
    Calls Try.prog 95 #[.pointer (some ⟨b0, 0, none⟩), .pointer (some ⟨b1, 0, none⟩)] w (StepPost dp (fun d => writeD d 0 B) d M F w) := by
  have HW := hid (write_any 0 x n cap B w h hst hwt hb hl hn)
  clear h hb hl hn hst hwt
  go_enter Try.func95, Try.ntmps95
  go_wp2_with fail
  refine HW.out.mono ?_
  rintro e w1 ⟨rfl, M', F', hd, hm, hf, hc⟩
  have fin : Hid (StepPost dp (fun d => writeD d 0 B) d M F w (.returned (.int .i64 ((writeD d 0 B).1 : Nat))) w1) := hid ⟨rfl, M', F', hd, hm, hf, hc⟩
  clear hd hm hf hc
  go_wp2_with fail
  go_ret
  exact fin.out
theorem fmt96 {dp b0 b1 : Nat} {d : Dk} {M F : Nat → Prop} {x : Option Addr} {n cap : Nat} {B : List UInt8} (w : World) (h : DiskAt w dp d M F) (hst : d.steps ≤ 1000000) (hwt : d.wait.length ≤ 1000000)
    (h0 : w.cell? ⟨b0, 0, none⟩ = some (.pointer (some ⟨dp, 0, none⟩))) (h1 : w.cell? ⟨b1, 0, none⟩ = some (.slice x n cap)) (hb : Bts w (.slice x n cap) B) (hl : B.length = n) (hn : ∀ k, (Value.slice x n cap).ownBlock = some k → ¬ M k) :
    Calls Try.prog 96 #[.pointer (some ⟨b0, 0, none⟩), .pointer (some ⟨b1, 0, none⟩)] w (StepPost dp (fun d => writeD d 1 B) d M F w) := by
  have HW := hid (write_any 1 x n cap B w h hst hwt hb hl hn)
  clear h hb hl hn hst hwt
  go_enter Try.func96, Try.ntmps96
  go_wp2_with fail
  refine HW.out.mono ?_
  rintro e w1 ⟨rfl, M', F', hd, hm, hf, hc⟩
  have fin : Hid (StepPost dp (fun d => writeD d 1 B) d M F w (.returned (.int .i64 ((writeD d 1 B).1 : Nat))) w1) := hid ⟨rfl, M', F', hd, hm, hf, hc⟩
  clear hd hm hf hc
  go_wp2_with fail
  go_ret
  exact fin.out
theorem fmt97 {dp b0 b1 : Nat} {d : Dk} {M F : Nat → Prop} {x : Option Addr} {n cap : Nat} {B : List UInt8} (w : World) (h : DiskAt w dp d M F) (hst : d.steps ≤ 1000000) (hwt : d.wait.length ≤ 1000000)
    (h0 : w.cell? ⟨b0, 0, none⟩ = some (.pointer (some ⟨dp, 0, none⟩))) (h1 : w.cell? ⟨b1, 0, none⟩ = some (.slice x n cap)) (hb : Bts w (.slice x n cap) B) (hl : B.length = n) (hn : ∀ k, (Value.slice x n cap).ownBlock = some k → ¬ M k) :
    Calls Try.prog 97 #[.pointer (some ⟨b0, 0, none⟩), .pointer (some ⟨b1, 0, none⟩)] w (StepPost dp (fun d => writeD d 1 B) d M F w) := by
  have HW := hid (write_any 1 x n cap B w h hst hwt hb hl hn)
  clear h hb hl hn hst hwt
  go_enter Try.func97, Try.ntmps97
  go_wp2_with fail
  refine HW.out.mono ?_
  rintro e w1 ⟨rfl, M', F', hd, hm, hf, hc⟩
  have fin : Hid (StepPost dp (fun d => writeD d 1 B) d M F w (.returned (.int .i64 ((writeD d 1 B).1 : Nat))) w1) := hid ⟨rfl, M', F', hd, hm, hf, hc⟩
  clear hd hm hf hc
  go_wp2_with fail
  go_ret
  exact fin.out

def FmtPost (w : World) (dp : Nat) (d : Dk) (M F : Nat → Prop) (R : List UInt8) (e : Ending) (w' : World) : Prop :=
  e = .returned (.int .i64 ((chD (fmtL R) d).1 : Nat)) ∧ ∃ M' F', DiskAt w' dp (chD (fmtL R) d).2 M' F' ∧ Fresh w M M' ∧ Fresh w F F' ∧ Ch M w w'

set_option maxRecDepth 20000 in
set_option maxHeartbeats 8000000 in
theorem format_ok {dp : Nat} {d : Dk} {M F : Nat → Prop} (w : World) (h : DiskAt w dp d M F) (hl : 4 ≤ d.L.length) (hst : d.steps ≤ 900000) (hwt : d.wait.length ≤ 900000) :
    Calls Try.prog 53 #[.pointer (some ⟨dp, 0, none⟩)] w (FmtPost w dp d M F (srootL 1 [])) := by
  have hfit := fit_any _ (h.ch ((Ch.refl (fun _ => False) w).alloc (.cells #[.pointer (some ⟨dp, 0, none⟩)] 24)) (fun _ _ h => h))
  rw [show fitE d.L.length = 0 by unfold fitE; rw [if_neg (by omega)]] at hfit
  have HFit := hid hfit
  have hmb := make_blank
  have HS := hid (sroot_any 1 ⟨#[]⟩ (((w.alloc (.cells #[.pointer (some ⟨dp, 0, none⟩)] 24)).alloc (.cells blankCells 5)).alloc (.cells #[.slice (some ⟨w.heap.size + 1, 0, none⟩) 512 512] 35)))
  rw [show srootE 1 (⟨#[]⟩ : ByteArray).size = 0 from rfl, show (⟨#[]⟩ : ByteArray).data.toList = [] from rfl] at HS
  obtain ⟨R, HR⟩ : ∃ R, Hid (srootL 1 [] = R) := ⟨_, hid rfl⟩
  rw [HR.out] at HS ⊢
  have HD0 := hid h
  have HLt := hid (disk_ltF h)
  clear hfit h
  go_enter Try.func53, Try.ntmps53
  go_wp2_with (go_at_call 94; refine HFit.out.mono ?_; rintro e w' ⟨rfl, rfl⟩)
  refine HS.out.mono ?_
  rintro e w2 ⟨v, rfl, hb, c, ho⟩
  obtain ⟨va, vc, rfl⟩ := hb.form
  have hq0 : w2.cell? ⟨w.heap.size, 0, none⟩ = some (.pointer (some ⟨dp, 0, none⟩)) := by
    rw [cell_blk (c.keep (heap_old (heap_old (heap_new _) _) _) (fun h => h))]; rfl
  have hb1 := heap_new (w := w.alloc (.cells #[.pointer (some ⟨dp, 0, none⟩)] 24)) (.cells blankCells 5)
  rw [show (w.alloc (.cells #[.pointer (some ⟨dp, 0, none⟩)] 24)).heap.size = w.heap.size + 1 by simp] at hb1
  have hb1' := c.keep (heap_old hb1 _) (fun h => h)
  have hb2 := heap_new (w := (w.alloc (.cells #[.pointer (some ⟨dp, 0, none⟩)] 24)).alloc (.cells blankCells 5)) (.cells #[.slice (some ⟨w.heap.size + 1, 0, none⟩) 512 512] 35)
  rw [show ((w.alloc (.cells #[.pointer (some ⟨dp, 0, none⟩)] 24)).alloc (.cells blankCells 5)).heap.size = w.heap.size + 1 + 1 by simp] at hb2
  have hq2 : w2.cell? ⟨w.heap.size + 1 + 1, 0, none⟩ = some (.slice (some ⟨w.heap.size + 1, 0, none⟩) 512 512) := by
    rw [cell_blk (c.keep hb2 (fun h => h))]; rfl
  have hz2 : w.heap.size + 1 + 1 < w2.heap.size := by have := c.size; simp at this; omega
  have hsec : SecIn w2 (w.heap.size + 1, 512) (zeros 512) := ⟨zeros_length _, Nat.le_refl _, blankCells, hb1', by simp [blankCells, bcells_length, zeros_length], by
    show (bcells (zeros 512)).take 512 = _
    rw [List.take_of_length_le (by rw [bcells_length, zeros_length]; omega)]⟩
  have HBt := hid hb
  have HSec := hid hsec.bts
  have HO : Hid (∀ k, (Value.slice va R.length vc).ownBlock = some k → w.heap.size ≤ k ) := hid (fun k hk => by have := ho k hk; simp at this; omega)
  have HC := hid (((((Ch.refl (fun _ => False) w).alloc (.cells #[.pointer (some ⟨dp, 0, none⟩)] 24)).alloc (.cells blankCells 5)).alloc (.cells #[.slice (some ⟨w.heap.size + 1, 0, none⟩) 512 512] 35)).trans c)
  have hq0b : (w2.alloc (.cells #[.slice va R.length vc] 35)).cell? ⟨w.heap.size, 0, none⟩ = some (.pointer (some ⟨dp, 0, none⟩)) := cell_ch2 hq0 ((Ch.refl (fun _ => False) w2).alloc _) (fun h => h)
  have HQ0' := hid hq0
  have HQ2' := hid hq2
  clear hb ho c hb2 hb1 hb1' hsec hq0 hq2
  go_wp2_with fail
  clear hq0b hmb
  obtain ⟨w4, hw4⟩ : ∃ w4, w4 = (w2.alloc (.cells #[.slice va R.length vc] 35)).alloc (.cells #[.func (Fn.func 95) #[] #[.pointer (some ⟨w.heap.size, 0, none⟩), .pointer (some ⟨w.heap.size + 1 + 1, 0, none⟩)], .func (Fn.func 96) #[] #[.pointer (some ⟨w.heap.size, 0, none⟩), .pointer (some ⟨w.heap.size + 1 + 1, 0, none⟩)],
    .func (Fn.func 23) #[.pointer (some ⟨dp, 0, none⟩)] #[], .func (Fn.func 97) #[] #[.pointer (some ⟨w.heap.size, 0, none⟩), .pointer (some ⟨w2.heap.size, 0, none⟩)], .func (Fn.func 23) #[.pointer (some ⟨dp, 0, none⟩)] #[]] 29) := ⟨_, rfl⟩
  have C24 : Ch (fun _ => False) w2 w4 := by rw [hw4]; exact ((Ch.refl _ _).alloc _).alloc _
  have hb4 : w4.heap[w2.heap.size + 1]? = some (.cells #[.func (Fn.func 95) #[] #[.pointer (some ⟨w.heap.size, 0, none⟩), .pointer (some ⟨w.heap.size + 1 + 1, 0, none⟩)], .func (Fn.func 96) #[] #[.pointer (some ⟨w.heap.size, 0, none⟩), .pointer (some ⟨w.heap.size + 1 + 1, 0, none⟩)],
    .func (Fn.func 23) #[.pointer (some ⟨dp, 0, none⟩)] #[], .func (Fn.func 97) #[] #[.pointer (some ⟨w.heap.size, 0, none⟩), .pointer (some ⟨w2.heap.size, 0, none⟩)], .func (Fn.func 23) #[.pointer (some ⟨dp, 0, none⟩)] #[]] 29 (0, 0)) := by
    rw [hw4]
    have := heap_new (w := w2.alloc (.cells #[.slice va R.length vc] 35)) (.cells #[.func (Fn.func 95) #[] #[.pointer (some ⟨w.heap.size, 0, none⟩), .pointer (some ⟨w.heap.size + 1 + 1, 0, none⟩)], .func (Fn.func 96) #[] #[.pointer (some ⟨w.heap.size, 0, none⟩), .pointer (some ⟨w.heap.size + 1 + 1, 0, none⟩)],
      .func (Fn.func 23) #[.pointer (some ⟨dp, 0, none⟩)] #[], .func (Fn.func 97) #[] #[.pointer (some ⟨w.heap.size, 0, none⟩), .pointer (some ⟨w2.heap.size, 0, none⟩)], .func (Fn.func 23) #[.pointer (some ⟨dp, 0, none⟩)] #[]] 29)
    rw [show (w2.alloc (.cells #[.slice va R.length vc] 35)).heap.size = w2.heap.size + 1 by simp] at this
    exact this
  have hb3 : w4.heap[w2.heap.size]? = some (.cells #[.slice va R.length vc] 35 (0, 0)) := by
    rw [hw4]; exact heap_old (heap_new _) _
  have HC4 := hid (HC.out.trans C24)
  have hMw : ∀ k, M k → k < w.heap.size := fun k hk => HLt.out.1 k (HLt.out.2 k hk)
  have H4 := hid (show w4.heap[w2.heap.size + 1]? = some (.cells #[.func (Fn.func 95) #[] #[.pointer (some ⟨w.heap.size, 0, none⟩), .pointer (some ⟨w.heap.size + 1 + 1, 0, none⟩)], .func (Fn.func 96) #[] #[.pointer (some ⟨w.heap.size, 0, none⟩), .pointer (some ⟨w.heap.size + 1 + 1, 0, none⟩)],
    .func (Fn.func 23) #[.pointer (some ⟨dp, 0, none⟩)] #[], .func (Fn.func 97) #[] #[.pointer (some ⟨w.heap.size, 0, none⟩), .pointer (some ⟨w2.heap.size, 0, none⟩)], .func (Fn.func 23) #[.pointer (some ⟨dp, 0, none⟩)] #[]] 29 (0, 0)) ∧ ¬ M (w2.heap.size + 1) ∧ True from ⟨hb4, fun hm => by have := hMw _ hm; omega, trivial⟩)
  have HQ0 := hid (fun (W : World) (hc : Ch M w4 W) => cell_ch2 (cell_ch2 HQ0'.out C24 (fun h => h)) hc (fun hm => by have : w.heap.size < w.heap.size := hMw _ hm; omega))
  have HQ2 := hid (fun (W : World) (hc : Ch M w4 W) => cell_ch2 (cell_ch2 HQ2'.out C24 (fun h => h)) hc (fun hm => by have : w.heap.size + 1 + 1 < w.heap.size := hMw _ hm; omega))
  have hq3 : w4.cell? ⟨w2.heap.size, 0, none⟩ = some (.slice va R.length vc) := by rw [cell_blk hb3]; rfl
  have HQ3 := hid (fun (W : World) (hc : Ch M w4 W) => cell_ch2 hq3 hc (fun hm => by have : w2.heap.size < w.heap.size := hMw _ hm; omega))
  have HBz := hid (fun (W : World) (hc : Ch M w4 W) => (HSec.out.ch C24 (fun _ _ h => h)).ch hc (fun k hk hm => by
    have := hMw k hm
    obtain rfl : w.heap.size + 1 = k := by simpa [secV, Value.ownBlock] using hk
    omega))
  have HBr := hid (fun (W : World) (hc : Ch M w4 W) => (HBt.out.ch C24 (fun _ _ h => h)).ch hc (fun k hk hm => by have := hMw k hm; have := HO.out k hk; omega))
  have hz24 := C24.size
  have hrlt : ∀ k, (Value.slice va R.length vc).ownBlock = some k → k < w4.heap.size := fun k hk => by
    rcases HBt.out with ⟨a, cap, e, e2⟩ | ⟨b, off, cap, cs, e, fz, h, _, hb, _⟩
    · exact absurd (congrArg List.length e2) (by rw [← HR.out]; simp [srootL, srootE, rootB_length])
    · rw [h] at hk
      obtain rfl : b = k := by simpa [Value.ownBlock] using hk
      have := blk_lt hb; omega
  have HOz : Hid (∀ k, (Value.slice (some ⟨w.heap.size + 1, 0, none⟩) 512 512).ownBlock = some k → ¬ (M k ∨ w4.heap.size ≤ k)) := hid (fun k hk hm => by
    obtain rfl : w.heap.size + 1 = k := by simpa [Value.ownBlock] using hk
    rcases hm with hm | hm
    · have := hMw _ hm; omega
    · omega)
  have HOr : Hid (∀ k, (Value.slice va R.length vc).ownBlock = some k → ¬ (M k ∨ w4.heap.size ≤ k)) := hid (fun k hk hm => by
    have h1 := HO.out k hk
    have h2 := hrlt k hk
    rcases hm with hm | hm
    · have := hMw _ hm; omega
    · omega)
  have HD4 := hid (HD0.out.ch HC4.out (fun _ _ h => h))
  rw [← hw4]
  clear hw4 C24 hb4 hb3 hq3 hMw hrlt HQ0' HQ2' HBt HSec
  go_loopw [29] (fun i wr => ∃ j : Nat, i = .int .i64 (j : Int) ∧ j ≤ 5 ∧ Hid (∃ d' M' F', DiskAt wr dp d' M' F' ∧ Pl d' d.L.length (900000 + j) ∧ chD (fmtL R) d = chD ((fmtL R).drop j) d' ∧ Fresh w4 M M' ∧ Fresh w4 F F') ∧ Hid (Ch M w4 wr)) (fun i _ => 10 - (intOf i).toNat)
  case atStart => exact ⟨0, rfl, by omega, hid ⟨d, M, F, HD4.out, ⟨rfl, hst, hwt⟩, rfl, Fresh.refl _ _, Fresh.refl _ _⟩, hid (Ch.refl _ _)⟩
  case round =>
    obtain ⟨j, rfl, hj, HI, HC⟩ := hrel
    obtain ⟨d', M', F', hD, hP, hEq, hFM, hFF⟩ := HI.out
    have HD := hid hD
    have HP := hid hP
    have HEq := hid hEq
    have HFM := hid hFM
    have HFF := hid hFF
    clear hD hP hEq hFM hFF HI
    by_cases h5 : j < 5
    · obtain rfl | rfl | rfl | rfl | rfl : j = 0 ∨ j = 1 ∨ j = 2 ∨ j = 3 ∨ j = 4 := by omega
      · have HCl := hid (fmt95 wr HD.out (by have := HP.out.steps; omega) (by have := HP.out.wait; omega) (HQ0.out wr HC.out) (HQ2.out wr HC.out) (HBz.out wr HC.out) (zeros_length 512) (fun k hk hm => HOz.out k hk (HFM.out k hm)))
        have HNx : Hid (chD ((fmtL R).drop 0) d' = if ((fun d => writeD d 0 (zeros 512)) d').1 ≠ 0 then (fun d => writeD d 0 (zeros 512)) d' else chD ((fmtL R).drop (0 + 1)) ((fun d => writeD d 0 (zeros 512)) d').2) := hid rfl
        have HPn : Hid (Pl ((fun d => writeD d 0 (zeros 512)) d').2 d.L.length (900000 + (0 + 1))) := hid (HP.out.write 0 (zeros 512))
        obtain ⟨E, HE⟩ : ∃ E, Hid (((fun d => writeD d 0 (zeros 512)) d').1 = E) := ⟨_, hid rfl⟩
        rw [HE.out] at HNx
        unfold StepPost at HCl
        rw [HE.out] at HCl
        have hcf : wr.cell? ⟨w2.heap.size + 1, 0, none⟩ = some (.func (Fn.func 95) #[] #[.pointer (some ⟨w.heap.size, 0, none⟩), .pointer (some ⟨w.heap.size + 1 + 1, 0, none⟩)]) := by
          rw [cell_blk (HC.out.keep H4.out.1 H4.out.2.1)]; rfl
        by_cases hE : E = 0
        · subst hE
          go_wp2_with fail
          refine HCl.out.mono ?_
          rintro e w5 ⟨rfl, M5, F5, hd5, hm5, hf5, c5⟩
          have HNext : Hid (∃ d' M' F', DiskAt w5 dp d' M' F' ∧ Pl d' d.L.length (900000 + (0 + 1)) ∧ chD (fmtL R) d = chD ((fmtL R).drop (0 + 1)) d' ∧ Fresh w4 M M' ∧ Fresh w4 F F') := hid (by
            refine ⟨_, M5, F5, hd5, HPn.out, by rw [HEq.out, HNx.out, if_neg (by simp)], fun k hk => ?_, fun k hk => ?_⟩
            · rcases hm5 k hk with h | h
              · exact HFM.out k h
              · exact .inr (Nat.le_trans HC.out.size h)
            · rcases hf5 k hk with h | h
              · exact HFF.out k h
              · exact .inr (Nat.le_trans HC.out.size h))
          have HC5 := hid (ch_fresh HC.out c5 HFM.out)
          clear hd5 hm5 hf5 c5
          go_wp2_with fail
          go_roundw
          case rel => exact ⟨0 + 1, by go_num, by omega, HNext, HC5⟩
          case measure => simp [intOf]
        · have hEb : ((E : Int) == 0) = false := by simpa using hE
          have HEn := hid hE
          clear hE
          go_wp2_with fail
          refine HCl.out.mono ?_
          rintro e w5 ⟨rfl, M5, F5, hd5, hm5, hf5, c5⟩
          have fin : Hid (FmtPost w dp d M F R (.returned (.int .i64 (E : Int))) w5) := hid (by
            unfold FmtPost
            rw [HEq.out, HNx.out, if_pos HEn.out, HE.out]
            have hz := HC4.out.size
            refine ⟨rfl, M5, F5, hd5, fun k hk => ?_, fun k hk => ?_, (HC4.out.mono (T := M) (fun _ _ h => h.elim)).trans (ch_fresh HC.out c5 HFM.out)⟩
            · rcases hm5 k hk with h | h
              · rcases HFM.out k h with h | h
                · exact .inl h
                · exact .inr (by omega)
              · exact .inr (Nat.le_trans (Nat.le_trans hz HC.out.size) h)
            · rcases hf5 k hk with h | h
              · rcases HFF.out k h with h | h
                · exact .inl h
                · exact .inr (by omega)
              · exact .inr (Nat.le_trans (Nat.le_trans hz HC.out.size) h))
          clear hd5 hm5 hf5 c5
          go_wp2_with fail
          go_ret
          exact fin.out
      · have HCl := hid (fmt96 wr HD.out (by have := HP.out.steps; omega) (by have := HP.out.wait; omega) (HQ0.out wr HC.out) (HQ2.out wr HC.out) (HBz.out wr HC.out) (zeros_length 512) (fun k hk hm => HOz.out k hk (HFM.out k hm)))
        have HNx : Hid (chD ((fmtL R).drop 1) d' = if ((fun d => writeD d 1 (zeros 512)) d').1 ≠ 0 then (fun d => writeD d 1 (zeros 512)) d' else chD ((fmtL R).drop (1 + 1)) ((fun d => writeD d 1 (zeros 512)) d').2) := hid rfl
        have HPn : Hid (Pl ((fun d => writeD d 1 (zeros 512)) d').2 d.L.length (900000 + (1 + 1))) := hid (HP.out.write 1 (zeros 512))
        obtain ⟨E, HE⟩ : ∃ E, Hid (((fun d => writeD d 1 (zeros 512)) d').1 = E) := ⟨_, hid rfl⟩
        rw [HE.out] at HNx
        unfold StepPost at HCl
        rw [HE.out] at HCl
        have hcf : wr.cell? ⟨w2.heap.size + 1, 1, none⟩ = some (.func (Fn.func 96) #[] #[.pointer (some ⟨w.heap.size, 0, none⟩), .pointer (some ⟨w.heap.size + 1 + 1, 0, none⟩)]) := by
          rw [cell_blk (HC.out.keep H4.out.1 H4.out.2.1)]; rfl
        by_cases hE : E = 0
        · subst hE
          go_wp2_with fail
          refine HCl.out.mono ?_
          rintro e w5 ⟨rfl, M5, F5, hd5, hm5, hf5, c5⟩
          have HNext : Hid (∃ d' M' F', DiskAt w5 dp d' M' F' ∧ Pl d' d.L.length (900000 + (1 + 1)) ∧ chD (fmtL R) d = chD ((fmtL R).drop (1 + 1)) d' ∧ Fresh w4 M M' ∧ Fresh w4 F F') := hid (by
            refine ⟨_, M5, F5, hd5, HPn.out, by rw [HEq.out, HNx.out, if_neg (by simp)], fun k hk => ?_, fun k hk => ?_⟩
            · rcases hm5 k hk with h | h
              · exact HFM.out k h
              · exact .inr (Nat.le_trans HC.out.size h)
            · rcases hf5 k hk with h | h
              · exact HFF.out k h
              · exact .inr (Nat.le_trans HC.out.size h))
          have HC5 := hid (ch_fresh HC.out c5 HFM.out)
          clear hd5 hm5 hf5 c5
          go_wp2_with fail
          go_roundw
          case rel => exact ⟨1 + 1, by go_num, by omega, HNext, HC5⟩
          case measure => simp [intOf]
        · have hEb : ((E : Int) == 0) = false := by simpa using hE
          have HEn := hid hE
          clear hE
          go_wp2_with fail
          refine HCl.out.mono ?_
          rintro e w5 ⟨rfl, M5, F5, hd5, hm5, hf5, c5⟩
          have fin : Hid (FmtPost w dp d M F R (.returned (.int .i64 (E : Int))) w5) := hid (by
            unfold FmtPost
            rw [HEq.out, HNx.out, if_pos HEn.out, HE.out]
            have hz := HC4.out.size
            refine ⟨rfl, M5, F5, hd5, fun k hk => ?_, fun k hk => ?_, (HC4.out.mono (T := M) (fun _ _ h => h.elim)).trans (ch_fresh HC.out c5 HFM.out)⟩
            · rcases hm5 k hk with h | h
              · rcases HFM.out k h with h | h
                · exact .inl h
                · exact .inr (by omega)
              · exact .inr (Nat.le_trans (Nat.le_trans hz HC.out.size) h)
            · rcases hf5 k hk with h | h
              · rcases HFF.out k h with h | h
                · exact .inl h
                · exact .inr (by omega)
              · exact .inr (Nat.le_trans (Nat.le_trans hz HC.out.size) h))
          clear hd5 hm5 hf5 c5
          go_wp2_with fail
          go_ret
          exact fin.out
      · have HCl := hid (flush_step wr HD.out (by have := HP.out.steps; omega) (by have := HP.out.wait; omega))
        have HNx : Hid (chD ((fmtL R).drop 2) d' = if (flushD d').1 ≠ 0 then flushD d' else chD ((fmtL R).drop (2 + 1)) (flushD d').2) := hid rfl
        have HPn : Hid (Pl (flushD d').2 d.L.length (900000 + (2 + 1))) := hid (HP.out.flush)
        obtain ⟨E, HE⟩ : ∃ E, Hid ((flushD d').1 = E) := ⟨_, hid rfl⟩
        rw [HE.out] at HNx
        unfold StepPost at HCl
        rw [HE.out] at HCl
        have hcf : wr.cell? ⟨w2.heap.size + 1, 2, none⟩ = some (.func (Fn.func 23) #[.pointer (some ⟨dp, 0, none⟩)] #[]) := by
          rw [cell_blk (HC.out.keep H4.out.1 H4.out.2.1)]; rfl
        by_cases hE : E = 0
        · subst hE
          go_wp2_with fail
          refine HCl.out.mono ?_
          rintro e w5 ⟨rfl, M5, F5, hd5, hm5, hf5, c5⟩
          have HNext : Hid (∃ d' M' F', DiskAt w5 dp d' M' F' ∧ Pl d' d.L.length (900000 + (2 + 1)) ∧ chD (fmtL R) d = chD ((fmtL R).drop (2 + 1)) d' ∧ Fresh w4 M M' ∧ Fresh w4 F F') := hid (by
            refine ⟨_, M5, F5, hd5, HPn.out, by rw [HEq.out, HNx.out, if_neg (by simp)], fun k hk => ?_, fun k hk => ?_⟩
            · rcases hm5 k hk with h | h
              · exact HFM.out k h
              · exact .inr (Nat.le_trans HC.out.size h)
            · rcases hf5 k hk with h | h
              · exact HFF.out k h
              · exact .inr (Nat.le_trans HC.out.size h))
          have HC5 := hid (ch_fresh HC.out c5 HFM.out)
          clear hd5 hm5 hf5 c5
          go_wp2_with fail
          go_roundw
          case rel => exact ⟨2 + 1, by go_num, by omega, HNext, HC5⟩
          case measure => simp [intOf]
        · have hEb : ((E : Int) == 0) = false := by simpa using hE
          have HEn := hid hE
          clear hE
          go_wp2_with fail
          refine HCl.out.mono ?_
          rintro e w5 ⟨rfl, M5, F5, hd5, hm5, hf5, c5⟩
          have fin : Hid (FmtPost w dp d M F R (.returned (.int .i64 (E : Int))) w5) := hid (by
            unfold FmtPost
            rw [HEq.out, HNx.out, if_pos HEn.out, HE.out]
            have hz := HC4.out.size
            refine ⟨rfl, M5, F5, hd5, fun k hk => ?_, fun k hk => ?_, (HC4.out.mono (T := M) (fun _ _ h => h.elim)).trans (ch_fresh HC.out c5 HFM.out)⟩
            · rcases hm5 k hk with h | h
              · rcases HFM.out k h with h | h
                · exact .inl h
                · exact .inr (by omega)
              · exact .inr (Nat.le_trans (Nat.le_trans hz HC.out.size) h)
            · rcases hf5 k hk with h | h
              · rcases HFF.out k h with h | h
                · exact .inl h
                · exact .inr (by omega)
              · exact .inr (Nat.le_trans (Nat.le_trans hz HC.out.size) h))
          clear hd5 hm5 hf5 c5
          go_wp2_with fail
          go_ret
          exact fin.out
      · have HCl := hid (fmt97 wr HD.out (by have := HP.out.steps; omega) (by have := HP.out.wait; omega) (HQ0.out wr HC.out) (HQ3.out wr HC.out) (HBr.out wr HC.out) rfl (fun k hk hm => HOr.out k hk (HFM.out k hm)))
        have HNx : Hid (chD ((fmtL R).drop 3) d' = if ((fun d => writeD d 1 R) d').1 ≠ 0 then (fun d => writeD d 1 R) d' else chD ((fmtL R).drop (3 + 1)) ((fun d => writeD d 1 R) d').2) := hid rfl
        have HPn : Hid (Pl ((fun d => writeD d 1 R) d').2 d.L.length (900000 + (3 + 1))) := hid (HP.out.write 1 R)
        obtain ⟨E, HE⟩ : ∃ E, Hid (((fun d => writeD d 1 R) d').1 = E) := ⟨_, hid rfl⟩
        rw [HE.out] at HNx
        unfold StepPost at HCl
        rw [HE.out] at HCl
        have hcf : wr.cell? ⟨w2.heap.size + 1, 3, none⟩ = some (.func (Fn.func 97) #[] #[.pointer (some ⟨w.heap.size, 0, none⟩), .pointer (some ⟨w2.heap.size, 0, none⟩)]) := by
          rw [cell_blk (HC.out.keep H4.out.1 H4.out.2.1)]; rfl
        by_cases hE : E = 0
        · subst hE
          go_wp2_with fail
          refine HCl.out.mono ?_
          rintro e w5 ⟨rfl, M5, F5, hd5, hm5, hf5, c5⟩
          have HNext : Hid (∃ d' M' F', DiskAt w5 dp d' M' F' ∧ Pl d' d.L.length (900000 + (3 + 1)) ∧ chD (fmtL R) d = chD ((fmtL R).drop (3 + 1)) d' ∧ Fresh w4 M M' ∧ Fresh w4 F F') := hid (by
            refine ⟨_, M5, F5, hd5, HPn.out, by rw [HEq.out, HNx.out, if_neg (by simp)], fun k hk => ?_, fun k hk => ?_⟩
            · rcases hm5 k hk with h | h
              · exact HFM.out k h
              · exact .inr (Nat.le_trans HC.out.size h)
            · rcases hf5 k hk with h | h
              · exact HFF.out k h
              · exact .inr (Nat.le_trans HC.out.size h))
          have HC5 := hid (ch_fresh HC.out c5 HFM.out)
          clear hd5 hm5 hf5 c5
          go_wp2_with fail
          go_roundw
          case rel => exact ⟨3 + 1, by go_num, by omega, HNext, HC5⟩
          case measure => simp [intOf]
        · have hEb : ((E : Int) == 0) = false := by simpa using hE
          have HEn := hid hE
          clear hE
          go_wp2_with fail
          refine HCl.out.mono ?_
          rintro e w5 ⟨rfl, M5, F5, hd5, hm5, hf5, c5⟩
          have fin : Hid (FmtPost w dp d M F R (.returned (.int .i64 (E : Int))) w5) := hid (by
            unfold FmtPost
            rw [HEq.out, HNx.out, if_pos HEn.out, HE.out]
            have hz := HC4.out.size
            refine ⟨rfl, M5, F5, hd5, fun k hk => ?_, fun k hk => ?_, (HC4.out.mono (T := M) (fun _ _ h => h.elim)).trans (ch_fresh HC.out c5 HFM.out)⟩
            · rcases hm5 k hk with h | h
              · rcases HFM.out k h with h | h
                · exact .inl h
                · exact .inr (by omega)
              · exact .inr (Nat.le_trans (Nat.le_trans hz HC.out.size) h)
            · rcases hf5 k hk with h | h
              · rcases HFF.out k h with h | h
                · exact .inl h
                · exact .inr (by omega)
              · exact .inr (Nat.le_trans (Nat.le_trans hz HC.out.size) h))
          clear hd5 hm5 hf5 c5
          go_wp2_with fail
          go_ret
          exact fin.out
      · have HCl := hid (flush_step wr HD.out (by have := HP.out.steps; omega) (by have := HP.out.wait; omega))
        have HNx : Hid (chD ((fmtL R).drop 4) d' = if (flushD d').1 ≠ 0 then flushD d' else chD ((fmtL R).drop (4 + 1)) (flushD d').2) := hid rfl
        have HPn : Hid (Pl (flushD d').2 d.L.length (900000 + (4 + 1))) := hid (HP.out.flush)
        obtain ⟨E, HE⟩ : ∃ E, Hid ((flushD d').1 = E) := ⟨_, hid rfl⟩
        rw [HE.out] at HNx
        unfold StepPost at HCl
        rw [HE.out] at HCl
        have hcf : wr.cell? ⟨w2.heap.size + 1, 4, none⟩ = some (.func (Fn.func 23) #[.pointer (some ⟨dp, 0, none⟩)] #[]) := by
          rw [cell_blk (HC.out.keep H4.out.1 H4.out.2.1)]; rfl
        by_cases hE : E = 0
        · subst hE
          go_wp2_with fail
          refine HCl.out.mono ?_
          rintro e w5 ⟨rfl, M5, F5, hd5, hm5, hf5, c5⟩
          have HNext : Hid (∃ d' M' F', DiskAt w5 dp d' M' F' ∧ Pl d' d.L.length (900000 + (4 + 1)) ∧ chD (fmtL R) d = chD ((fmtL R).drop (4 + 1)) d' ∧ Fresh w4 M M' ∧ Fresh w4 F F') := hid (by
            refine ⟨_, M5, F5, hd5, HPn.out, by rw [HEq.out, HNx.out, if_neg (by simp)], fun k hk => ?_, fun k hk => ?_⟩
            · rcases hm5 k hk with h | h
              · exact HFM.out k h
              · exact .inr (Nat.le_trans HC.out.size h)
            · rcases hf5 k hk with h | h
              · exact HFF.out k h
              · exact .inr (Nat.le_trans HC.out.size h))
          have HC5 := hid (ch_fresh HC.out c5 HFM.out)
          clear hd5 hm5 hf5 c5
          go_wp2_with fail
          go_roundw
          case rel => exact ⟨4 + 1, by go_num, by omega, HNext, HC5⟩
          case measure => simp [intOf]
        · have hEb : ((E : Int) == 0) = false := by simpa using hE
          have HEn := hid hE
          clear hE
          go_wp2_with fail
          refine HCl.out.mono ?_
          rintro e w5 ⟨rfl, M5, F5, hd5, hm5, hf5, c5⟩
          have fin : Hid (FmtPost w dp d M F R (.returned (.int .i64 (E : Int))) w5) := hid (by
            unfold FmtPost
            rw [HEq.out, HNx.out, if_pos HEn.out, HE.out]
            have hz := HC4.out.size
            refine ⟨rfl, M5, F5, hd5, fun k hk => ?_, fun k hk => ?_, (HC4.out.mono (T := M) (fun _ _ h => h.elim)).trans (ch_fresh HC.out c5 HFM.out)⟩
            · rcases hm5 k hk with h | h
              · rcases HFM.out k h with h | h
                · exact .inl h
                · exact .inr (by omega)
              · exact .inr (Nat.le_trans (Nat.le_trans hz HC.out.size) h)
            · rcases hf5 k hk with h | h
              · rcases HFF.out k h with h | h
                · exact .inl h
                · exact .inr (by omega)
              · exact .inr (Nat.le_trans (Nat.le_trans hz HC.out.size) h))
          clear hd5 hm5 hf5 c5
          go_wp2_with fail
          go_ret
          exact fin.out
    · obtain rfl : j = 5 := by omega
      have fin : Hid (FmtPost w dp d M F R (.returned (.int .i64 0)) wr) := hid (by
        unfold FmtPost
        rw [HEq.out]
        have hz := HC4.out.size
        refine ⟨rfl, M', F', HD.out, fun k hk => ?_, fun k hk => ?_, (HC4.out.mono (T := M) (fun _ _ h => h.elim)).trans HC.out⟩
        · rcases HFM.out k hk with h | h
          · exact .inl h
          · exact .inr (by omega)
        · rcases HFF.out k hk with h | h
          · exact .inl h
          · exact .inr (by omega))
      go_wp2_with fail
      go_ret
      exact fin.out
end

section
open Go.RowKit Go.MapKept Go.Maps

theorem format_bad {dp : Nat} {d : Dk} {M F : Nat → Prop} (w : World) (h : DiskAt w dp d M F) (hl : d.L.length < 4) :
    Calls Try.prog 53 #[.pointer (some ⟨dp, 0, none⟩)] w fun e w' => e = .returned (.int .i64 2) ∧ Ch (fun _ => False) w w' := by
  have hfit := fit_any _ (h.ch ((Ch.refl (fun _ => False) w).alloc (.cells #[.pointer (some ⟨dp, 0, none⟩)] 24)) (fun _ _ h => h))
  rw [show fitE d.L.length = 2 by unfold fitE; rw [if_pos hl]] at hfit
  have HFit := hid hfit
  clear hfit h hl
  go_enter Try.func53, Try.ntmps53
  go_wp2_with (go_at_call 94; refine HFit.out.mono ?_; rintro e w' ⟨rfl, rfl⟩)
  go_ret
  exact ⟨rfl, (Ch.refl _ _).alloc _⟩

/-- The better root of two. -/
def pickR (i : Nat) (b : List UInt8) (acc : Nat × List UInt8) : Nat × List UInt8 := match rootL b with
  | some (g, s) => if g % 2 = i ∧ acc.1 < g then (g, s) else acc
  | none => acc
def accR (d : Dk) : Nat → Nat × List UInt8
  | 0 => (0, [])
  | j + 1 => pickR j (readD d (j : Int)).2 (accR d j)
/-- A pager on a disk, with this root. -/
def newP (d : Dk) (a : Nat × List UInt8) : Pg := { d := d, gen := a.1, root := a.2, pages := List.replicate d.L.length (0, 0), pins := [], dead := false, ops := 0 }
/-- Open: the error, and the pager. -/
def openE (d : Dk) : Nat := if d.L.length < 4 then 2 else if d.gone = true then 9 else if (accR d 2).1 = 0 then 10 else 0
def openP (d : Dk) : Pg := newP d (accR d 2)

theorem rootL_le {b : List UInt8} {g : Nat} {s : List UInt8} (h : rootL b = some (g, s)) : g ≤ 4611686018427387904 := (root_some h).2.2.1
theorem accR_le (d : Dk) : ∀ j, (accR d j).1 ≤ 4611686018427387904 := by
  intro j
  induction j with
  | zero => simp [accR]
  | succ j ih =>
    show (pickR j (readD d (j : Int)).2 (accR d j)).1 ≤ _
    unfold pickR
    split
    · rename_i g s hr
      split
      · exact rootL_le hr
      · exact ih
    · exact ih

theorem Try.info155 : (Try.prog.info? 155).map (fun i => (i.zero, i.size, i.bytes)) = some (some (.agg #[.int .i64 0, .int .i64 0]), 2, 16) := by kernel_rfl
theorem made_pages (n : Nat) : madeCells #[Value.int .i64 0, Value.int .i64 0] (n * 2) = (pgCells (List.replicate n (0, 0))).toArray := by
  have e : pgCells (List.replicate n (0, 0)) = List.replicate (n * 2) (Value.int .i64 0) := by
    induction n with
    | zero => rfl
    | succ n ih =>
      rw [List.replicate_succ, show pgCells ((0, 0) :: List.replicate n (0, 0)) = .int .i64 0 :: .int .i64 0 :: pgCells (List.replicate n (0, 0)) from rfl, ih, show (n + 1) * 2 = n * 2 + 1 + 1 by omega, List.replicate_succ, List.replicate_succ]
  rw [e]
  apply Array.ext'
  simp only [madeCells]
  simp [List.eq_replicate_iff]
  intro b _
  rcases Nat.mod_two_eq_zero_or_one b with e | e <;> simp [e]
theorem make_pages (n : Nat) (hn : n ≤ 4096) (w : World) : (Instr.makeSlice 150 (.int .i64 (n : Int)) (.int .i64 (n : Int))).run Try.prog w = .ok (.slice (some ⟨w.heap.size, 0, none⟩) n n) (w.alloc (.cells (pgCells (List.replicate n (0, 0))).toArray 155)) := by
  obtain ⟨i, hi, hzz⟩ := Option.map_eq_some_iff.1 Try.info155
  simp only [Prod.mk.injEq] at hzz
  obtain ⟨hz, hs, hb⟩ := hzz
  have hb' : (i.bytes : Int) * (n : Int) ≤ 281474976710656 := by rw [hb]; omega
  have hr := run_make (P := Try.prog) w 150 155 i (.agg #[.int .i64 0, .int .i64 0]) Try.underlying150 hi hz .i64 .i64 n n (by omega) (Int.le_refl _) hb' (by omega)
  simp only [Int.toNat_natCast, hs] at hr
  rw [hr]
  rw [show (Value.agg #[Value.int .i64 0, Value.int .i64 0]).cells = #[Value.int .i64 0, Value.int .i64 0] from rfl, made_pages]

theorem open_nil (w : World) : Calls Try.prog 54 #[.pointer none] w fun e w' => e = .returned (.tuple #[.pointer none, .int .i64 1]) ∧ w = w' := by
  go_enter Try.func54, Try.ntmps54
  go_wp2_with (go_at_call 94; refine (fit_none _).mono ?_; rintro e w' ⟨rfl, rfl⟩)
  go_ret2
  exact ⟨rfl, rfl⟩

def OpenPost (w : World) (dp : Nat) (d : Dk) (M F : Nat → Prop) (e : Ending) (w' : World) : Prop :=
  Ch (fun _ => False) w w' ∧ ((openE d ≠ 0 ∧ e = .returned (.tuple #[.pointer none, .int .i64 (openE d : Nat)])) ∨
    (openE d = 0 ∧ ∃ pp gb mb O, e = .returned (.tuple #[.pointer (some ⟨pp, 0, none⟩), .int .i64 0]) ∧ PgX w' pp dp gb mb (openP d) M F O ∧ ∀ k, O k → w.heap.size ≤ k))

set_option maxRecDepth 20000 in
set_option maxHeartbeats 4000000 in
theorem popen_any {dp : Nat} {d : Dk} {M F : Nat → Prop} (w : World) (h : DiskAt w dp d M F) (hwt : d.wait.length ≤ 1000000) :
    Calls Try.prog 54 #[.pointer (some ⟨dp, 0, none⟩)] w (OpenPost w dp d M F) := by
  have HD := hid h
  have hsz := size_any w h
  have hfit := fit_any w h
  have n2 := h.sane.n2
  have hlt := disk_ltF h
  obtain ⟨n, HN⟩ : ∃ n, Hid (d.L.length = n) := ⟨_, hid rfl⟩
  rw [HN.out] at hsz hfit n2
  by_cases h4 : n < 4
  · have fin : Hid (OpenPost w dp d M F (.returned (.tuple #[.pointer none, .int .i64 2])) w) := hid (by
      have e : openE d = 2 := by unfold openE; rw [if_pos (by rw [HN.out]; exact h4)]
      exact ⟨Ch.refl _ _, .inl ⟨by rw [e]; simp, by rw [e]; rfl⟩⟩)
    rw [show fitE n = 2 by unfold fitE; rw [if_pos h4]] at hfit
    have HFit := hid hfit
    clear hfit hsz h h4 hlt
    go_enter Try.func54, Try.ntmps54
    go_wp2_with (go_at_call 94; refine HFit.out.mono ?_; rintro e w' ⟨rfl, rfl⟩)
    go_ret2
    exact fin.out
  rw [show fitE n = 0 by unfold fitE; rw [if_neg h4]] at hfit
  have HFit := hid hfit
  have HSz := hid hsz
  have HLt := hid hlt
  have hmk := make_pages n n2 w
  obtain ⟨PC, HPC⟩ : ∃ PC, Hid ((pgCells (List.replicate n (0, 0))).toArray = PC) := ⟨_, hid rfl⟩
  rw [HPC.out] at hmk
  have hmm := run_makeMap (P := Try.prog) 151 (w.alloc (.cells PC 155))
  clear hfit hsz h hlt
  go_enter Try.func54, Try.ntmps54
  go_wp2_with (first | (go_at_call 94; refine HFit.out.mono ?_; rintro e w' ⟨rfl, rfl⟩) | (go_at_call 44; refine HSz.out.mono ?_; rintro e w' ⟨rfl, rfl⟩))
  clear hmk hmm
  obtain ⟨w3, hw3⟩ : ∃ w3, w3 = ((w.alloc (.cells PC 155)).alloc (.map #[] 0)).alloc (.cells #[.pointer (some ⟨dp, 0, none⟩), .int .i64 0, .string ⟨#[]⟩, .slice (some ⟨w.heap.size, 0, none⟩) n n, .map (some (w.heap.size + 1)), .bool false] 153) := ⟨_, rfl⟩
  have HC3 : Hid (Ch (fun _ => False) w w3) := hid (by rw [hw3]; exact (((Ch.refl _ w).alloc _).alloc _).alloc _)
  have HO : Hid (∀ k, (k = w.heap.size + 1 + 1 ∨ k = w.heap.size ∨ k = w.heap.size + 1) → w.heap.size ≤ k) := hid (fun k hk => by omega)
  have HX3 : Hid (PgX w3 (w.heap.size + 1 + 1) dp w.heap.size (w.heap.size + 1) (newP d (accR d 0)) M F (fun k => k = w.heap.size + 1 + 1 ∨ k = w.heap.size ∨ k = w.heap.size + 1)) := hid (by
    have hz3 : w3.heap.size = w.heap.size + 3 := by rw [hw3]; simp
    have e3 : (newP d (accR d 0)).pages = List.replicate n (0, 0) := by show List.replicate d.L.length (0, 0) = _; rw [HN.out]
    have e4 : (newP d (accR d 0)).pages.length = n := by rw [e3, List.length_replicate]
    refine ⟨⟨by rw [e4]; omega, by rw [e4]; exact n2, by simp [newP, accR], ?_, by simp [newP], by simp [newP], ?_, ?_, ?_⟩, HD.out.ch HC3.out (fun _ _ h => h), by rw [e4]; exact HN.out.symm, .inl rfl, .inr (.inl rfl), .inr (.inr rfl), fun k hk => ⟨fun hf => ?_, ?_⟩⟩
    · intro x hx
      rw [e3] at hx
      rw [(List.mem_replicate.1 hx).2]; simp
    · rw [e4, hw3]
      have := heap_new (w := (w.alloc (.cells PC 155)).alloc (.map #[] 0)) (.cells #[.pointer (some ⟨dp, 0, none⟩), .int .i64 0, .string ⟨#[]⟩, .slice (some ⟨w.heap.size, 0, none⟩) n n, .map (some (w.heap.size + 1)), .bool false] 153)
      rw [show ((w.alloc (.cells PC 155)).alloc (.map #[] 0)).heap.size = w.heap.size + 1 + 1 by simp] at this
      exact this
    · rw [hw3, e3, HPC.out]
      exact heap_old (heap_old (heap_new _) _) _
    · have hm := PinAt.made (w.alloc (.cells PC 155))
      rw [show (w.alloc (.cells PC 155)).heap.size = w.heap.size + 1 by simp] at hm
      have hml := hm.lt
      refine hm.frame ?_
      rw [hw3]
      exact Below.heap_alloc _ _ _ hml
    · have := HLt.out.1 k hf; omega
    · rw [hz3]; omega)
  rw [← hw3]
  obtain ⟨pp, hpp⟩ : ∃ pp, pp = w.heap.size + 1 + 1 := ⟨_, rfl⟩
  obtain ⟨gb, hgb⟩ : ∃ gb, gb = w.heap.size := ⟨_, rfl⟩
  obtain ⟨mb, hmb⟩ : ∃ mb, mb = w.heap.size + 1 := ⟨_, rfl⟩
  obtain ⟨O, hO⟩ : ∃ O : Nat → Prop, O = fun k => k = w.heap.size + 1 + 1 ∨ k = w.heap.size ∨ k = w.heap.size + 1 := ⟨_, rfl⟩
  have HO2 : Hid (∀ k, O k → w.heap.size ≤ k) := hid (by rw [hO]; exact HO.out)
  rw [← hO] at HX3
  rw [← hpp, ← hmb, ← hgb] at HX3
  rw [← hpp, ← hmb, ← hgb]
  clear hw3 HO hO hpp hgb hmb
  go_loopw [24] (fun i wr => ∃ j : Nat, i = .int .i64 (j : Int) ∧ j ≤ 2 ∧ Hid (PgX wr pp dp gb mb (newP d (accR d j)) M F O) ∧ Hid (Ch (fun _ => False) w wr) ∧ Hid (0 < j → ¬ d.gone = true)) (fun i _ => 10 - (intOf i).toNat)
  case atStart => exact ⟨0, rfl, by omega, HX3, HC3, hid (fun h => by omega)⟩
  case round =>
    obtain ⟨j, rfl, hj, HI, HC, HG⟩ := hrel
    by_cases hlt : j < 2
    · have hjr : 0 ≤ (j : Int) ∧ (j : Int) < d.L.length := by rw [HN.out]; omega
      have HJr := hid hjr
      have hrd := read_any (j : Int) wr (HD.out.ch HC.out (fun _ _ h => h)) hwt
      by_cases hg : d.gone = true
      · have e9 : readD d (j : Int) = (9, []) := by unfold readD; rw [if_neg (fun h => h hjr), if_pos hg]
        rw [e9] at hrd
        have fin : Hid (∀ W, Ch (fun _ => False) w W → OpenPost w dp d M F (.returned (.tuple #[.pointer none, .int .i64 9])) W) := hid (fun W hW => by
          have e : openE d = 9 := by unfold openE; rw [if_neg (by rw [HN.out]; exact h4), if_pos hg]
          exact ⟨hW, .inl ⟨by rw [e]; simp, by rw [e]; rfl⟩⟩)
        have HRd := hid hrd
        clear hrd e9 hg hjr h4
        go_wp2_with fail
        refine HRd.out.mono ?_
        rintro e w4 ⟨v, rfl, -, c4, -, ⟨x, cap, rfl⟩⟩
        have HC4 := hid (HC.out.trans c4)
        clear c4
        go_wp2_with fail
        go_ret2
        exact fin.out _ HC4.out
      · obtain ⟨B, HB⟩ : ∃ B, Hid ((readD d (j : Int)).2 = B) := ⟨_, hid rfl⟩
        have e0 : (readD d (j : Int)).1 = 0 := by unfold readD; rw [if_neg (fun h => h hjr), if_neg hg]
        rw [e0, HB.out] at hrd
        have HRd := hid hrd
        have HGn := hid hg
        have HBl : Hid (B.length ≤ 140737488355328) := hid (by
          have hs := HD.out.sane
          have : ∀ l ∈ (applyW d.wait d.L), l.length = 512 := applyW_secs _ (fun x hx => (hs.wait x hx).1) _ hs.secs
          rw [← HB.out]
          unfold readD
          rw [if_neg (fun h => h hjr), if_neg hg]
          have hl : (j : Int).toNat < d.L.length := by have := hjr.2; omega
          show (readW d.wait (j : Int).toNat (d.L.getD (j : Int).toNat [])).length ≤ _
          rw [readW_apply _ _ _ hl, List.getD, List.getElem?_eq_getElem (by rw [applyW_length]; exact hl), Option.getD_some, this _ (List.getElem_mem _)]
          omega)
        have HAcc : Hid (accR d (j + 1) = pickR j B (accR d j)) := hid (by rw [← HB.out]; rfl)
        have ha := accR_le d j
        obtain ⟨a, HAa⟩ : ∃ a, Hid (accR d j = a) := ⟨_, hid rfl⟩
        rw [HAa.out] at ha HI HAcc
        have hppz := blk_lt HI.out.1.hp
        clear hrd e0 hg hjr
        go_wp2_with fail
        refine HRd.out.mono ?_
        rintro e w4 ⟨v, rfl, hb, c4, -, ⟨x, cap, rfl⟩⟩
        have HC4 := hid (HC.out.trans c4)
        have HX4 := hid (HI.out.ch c4 (fun _ _ h => h) (fun _ _ h => h))
        have HBt := hid hb
        clear hb c4
        go_wp2_with fail
        refine (rootopen_any _ B _ HBl.out HBt.out).mono ?_
        rintro e w5 ⟨rfl, c5⟩
        have HC5 := hid (HC4.out.trans c5)
        have HX5 := hid (HX4.out.ch c5 (fun _ _ h => h) (fun _ _ h => h))
        clear c5
        cases hr : rootL B with
        | none =>
          have HN5 : Hid (PgX w5 pp dp gb mb (newP d (accR d (j + 1))) M F O) := hid (by rw [HAcc.out, show pickR j B a = a by unfold pickR; rw [hr]]; exact HX5.out)
          unfold rootV
          clear hr
          go_wp2_with fail
          go_roundw
          case rel => exact ⟨j + 1, by go_num, by omega, HN5, HC5, hid (fun _ => HGn.out)⟩
          case measure => simp [intOf]; omega
        | some y =>
          obtain ⟨g, s⟩ := y
          have hgb := rootL_le hr
          have c1 := cell_blk HX5.out.1.hp 1
          have c2 := cell_blk HX5.out.1.hp 2
          have f1 := frozen_blk HX5.out.1.hp 1
          have f2 := frozen_blk HX5.out.1.hp 2
          simp [newP] at c1 c2
          by_cases hp : g % 2 = j
          · have hpb : ((g : Int) % 2 == (j : Int)) = true := by rw [beq_iff_eq]; omega
            by_cases hgt : (a.1 : Int) < (g : Int)
            · have HN5 : Hid (∀ W, W = (w5.setCell ⟨pp, 1, none⟩ (.int .i64 (g : Int))).setCell ⟨pp, 2, none⟩ (.string ⟨s.toArray⟩) → PgX W pp dp gb mb (newP d (accR d (j + 1))) M F O ∧ Ch (fun _ => False) w W) := hid (by
                rintro W rfl
                rw [HAcc.out, show pickR j B a = (g, s) by unfold pickR; rw [hr]; show (if g % 2 = j ∧ a.1 < g then (g, s) else a) = _; rw [if_pos ⟨hp, by omega⟩]]
                obtain ⟨h1, h2, h3, h4, h5, h6, h7⟩ := HX5.out
                have := PgAt.head h1 h2 h3 h4 h5 h6 h7 g s false hgb (w' := (w5.setCell ⟨pp, 1, none⟩ (.int .i64 (g : Int))).setCell ⟨pp, 2, none⟩ (.string ⟨s.toArray⟩)) (by rw [heap_set (heap_set h1.hp 1 _) 2 _]; rfl) (fun k hk => by rw [Below.heap_setCell _ _ _ _ hk, Below.heap_setCell _ _ _ _ hk]) (by simp [World.setCell])
                exact ⟨this, (HC5.out.setCell (fun hh => by have := HO2.out pp h4; have : pp < w.heap.size := hh; omega) _).setCell (fun hh => by have := HO2.out pp h4; have : pp < w.heap.size := hh; omega) _⟩)
              unfold rootV
              clear hr hp
              go_wp2_with fail
              go_roundw
              case rel => exact ⟨j + 1, by go_num, by omega, hid (HN5.out _ rfl).1, hid (HN5.out _ rfl).2, hid (fun _ => HGn.out)⟩
              case measure => simp [intOf]; omega
            · have HN5 : Hid (PgX w5 pp dp gb mb (newP d (accR d (j + 1))) M F O) := hid (by
                rw [HAcc.out, show pickR j B a = a by unfold pickR; rw [hr]; show (if g % 2 = j ∧ a.1 < g then (g, s) else a) = _; rw [if_neg (fun h => by omega)]]
                exact HX5.out)
              unfold rootV
              clear hr hp
              go_wp2_with fail
              go_roundw
              case rel => exact ⟨j + 1, by go_num, by omega, HN5, HC5, hid (fun _ => HGn.out)⟩
              case measure => simp [intOf]; omega
          · have hpb : ((g : Int) % 2 == (j : Int)) = false := by rw [beq_eq_false_iff_ne]; omega
            have HN5 : Hid (PgX w5 pp dp gb mb (newP d (accR d (j + 1))) M F O) := hid (by
              rw [HAcc.out, show pickR j B a = a by unfold pickR; rw [hr]; show (if g % 2 = j ∧ a.1 < g then (g, s) else a) = _; rw [if_neg (fun h => hp h.1)]]
              exact HX5.out)
            unfold rootV
            clear hr hp
            go_wp2_with fail
            go_roundw
            case rel => exact ⟨j + 1, by go_num, by omega, HN5, HC5, hid (fun _ => HGn.out)⟩
            case measure => simp [intOf]; omega
    · obtain rfl : j = 2 := by omega
      have c1 := cell_blk HI.out.1.hp 1
      simp [newP] at c1
      have hng := HG.out (by omega)
      by_cases h0 : (accR d 2).1 = 0
      · have fin : Hid (OpenPost w dp d M F (.returned (.tuple #[.pointer none, .int .i64 10])) wr) := hid (by
          have e : openE d = 10 := by unfold openE; rw [if_neg (by rw [HN.out]; exact h4), if_neg hng, if_pos h0]
          exact ⟨HC.out, .inl ⟨by rw [e]; simp, by rw [e]; rfl⟩⟩)
        rw [h0] at c1
        clear h0 hng h4
        go_wp2_with fail
        go_ret2
        exact fin.out
      · have fin : Hid (OpenPost w dp d M F (.returned (.tuple #[.pointer (some ⟨pp, 0, none⟩), .int .i64 0])) wr) := hid (by
          have e : openE d = 0 := by unfold openE; rw [if_neg (by rw [HN.out]; exact h4), if_neg hng, if_neg h0]
          exact ⟨HC.out, .inr ⟨e, pp, gb, mb, O, rfl, HI.out, HO2.out⟩⟩)
        obtain ⟨a1, HA1⟩ : ∃ a1, Hid ((accR d 2).1 = a1) := ⟨_, hid rfl⟩
        rw [HA1.out] at c1 h0
        have h0b : ((a1 : Int) == 0) = false := by rw [beq_eq_false_iff_ne]; omega
        clear h0 hng h4
        go_wp2_with fail
        go_ret2
        exact fin.out
end

end Go.Proofs.Ytadhibemadgcoaa
