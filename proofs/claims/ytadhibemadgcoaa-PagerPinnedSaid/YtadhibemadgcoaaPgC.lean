/- Package pager: a page's state written; settle, Abort, Free. Conditions: as each theorem says. -/
import Derived.Test.YtadhibemadgcoaaPgB
namespace Go.Proofs.Ytadhibemadgcoaa
open Go.RowKit Go.MapKept Go.Maps

theorem PgX.ch {S : Nat → Prop} {w w' : World} {pp dp gb mb : Nat} {p : Pg} {M F O : Nat → Prop} (h : PgX w pp dp gb mb p M F O) (hc : Ch S w w') (hf : ∀ k, F k → ¬ S k) (ho : ∀ k, O k → ¬ S k) : PgX w' pp dp gb mb p M F O := by
  obtain ⟨h1, h2, h3, h4, h5, h6, h7⟩ := h
  exact ⟨h1.frame (hc.block _ (h7 _ h4).2 (ho _ h4)) (hc.block _ (h7 _ h5).2 (ho _ h5)) (hc.block _ (h7 _ h6).2 (ho _ h6)), h2.ch hc hf, h3, h4, h5, h6, fun k hk => ⟨(h7 k hk).1, Nat.lt_of_lt_of_le (h7 k hk).2 hc.size⟩⟩
/-- The pages' row turned. -/
theorem PgX.pages {w w' : World} {pp dp gb mb : Nat} {p : Pg} {M F O : Nat → Prop} (h : PgX w pp dp gb mb p M F O) (l : List (Nat × Nat)) (hl : l.length = p.pages.length) (hb : ∀ x ∈ l, x.2 ≤ 4611686018427387904)
    (hg : w'.heap[gb]? = some (.cells (pgCells l).toArray 155 (0, 0))) (hk : ∀ k, k ≠ gb → w'.heap[k]? = w.heap[k]?) (hz : w.heap.size ≤ w'.heap.size) : PgX w' pp dp gb mb { p with pages := l } M F O := by
  obtain ⟨h1, h2, h3, h4, h5, h6, h7⟩ := h
  have hgp : pp ≠ gb := fun e => by
    have := h1.hp.symm.trans (e ▸ h1.hg)
    simp only [Option.some.injEq, Obj.cells.injEq] at this
    exact absurd this.2.1 (by decide)
  have hmp : mb ≠ gb := fun e => by
    obtain ⟨D, ⟨es, clock, hb, _⟩, _⟩ := h1.hm
    have := h1.hg.symm.trans (e ▸ hb)
    cases this
  refine ⟨⟨by show 4 ≤ l.length; rw [hl]; exact h1.n1, by show l.length ≤ 4096; rw [hl]; exact h1.n2, h1.gen, hb, h1.pn, h1.pc, ?_, hg, h1.hm.frame (hk mb hmp)⟩, h2.frame hz (fun k hf => hk k (fun e => (h7 gb h5).1 (e ▸ hf))), by show l.length = _; rw [hl]; exact h3, h4, h5, h6, fun k hk2 => ⟨(h7 k hk2).1, Nat.lt_of_lt_of_le (h7 k hk2).2 hz⟩⟩
  show w'.heap[pp]? = some (.cells #[.pointer (some ⟨dp, 0, none⟩), .int .i64 (p.gen : Int), .string ⟨p.root.toArray⟩, .slice (some ⟨gb, 0, none⟩) l.length l.length, .map (some mb), .bool p.dead] 153 (0, 0))
  rw [hl, hk pp hgp]; exact h1.hp
theorem set_arr (l : List Value) (i : Nat) (v : Value) : l.toArray.setIfInBounds i v = (l.set i v).toArray := by simp
/-- Both cells of a page. -/
theorem PgX.page2 {w : World} {pp dp gb mb : Nat} {p : Pg} {M F O : Nat → Prop} (h : PgX w pp dp gb mb p M F O) (i : Nat) (x : Nat × Nat) (hx : x.2 ≤ 4611686018427387904) :
    PgX ((w.setCell ⟨gb, i * 2, none⟩ (.int .i64 (x.1 : Int))).setCell ⟨gb, i * 2 + 1, none⟩ (.int .i64 (x.2 : Int))) pp dp gb mb { p with pages := p.pages.set i x } M F O ∧ Ch O w ((w.setCell ⟨gb, i * 2, none⟩ (.int .i64 (x.1 : Int))).setCell ⟨gb, i * 2 + 1, none⟩ (.int .i64 (x.2 : Int))) := by
  have hO := h.2.2.2.2.1
  refine ⟨h.pages _ (by simp) (fun y hy => ?_) ?_ (fun k hk => by rw [Below.heap_setCell _ _ _ _ hk, Below.heap_setCell _ _ _ _ hk]) (by simp [World.setCell]), ((Ch.refl _ _).setCell (fun _ => hO) _).setCell (fun _ => hO) _⟩
  · rcases List.mem_or_eq_of_mem_set hy with h1 | h1
    · exact h.1.pg y h1
    · rw [h1]; exact hx
  · rw [heap_set (heap_set h.1.hg _ _) _ _, pgCells_set, set_arr, set_arr]
/-- A page's state alone. -/
theorem PgX.page1 {w : World} {pp dp gb mb : Nat} {p : Pg} {M F O : Nat → Prop} (h : PgX w pp dp gb mb p M F O) (i v : Nat) (y : Nat × Nat) (hy : p.pages[i]? = some y) :
    PgX (w.setCell ⟨gb, i * 2, none⟩ (.int .i64 (v : Int))) pp dp gb mb { p with pages := p.pages.set i (v, y.2) } M F O ∧ Ch O w (w.setCell ⟨gb, i * 2, none⟩ (.int .i64 (v : Int))) := by
  have hO := h.2.2.2.2.1
  refine ⟨h.pages _ (by simp) (fun z hz => ?_) ?_ (fun k hk => Below.heap_setCell _ _ _ _ hk) (by simp [World.setCell]), (Ch.refl _ _).setCell (fun _ => hO) _⟩
  · rcases List.mem_or_eq_of_mem_set hz with h1 | h1
    · exact h.1.pg z h1
    · rw [h1]; exact h.1.pg y (List.mem_of_getElem? hy)
  · rw [heap_set h.1.hg _ _, pgCells_set, set_arr]
    congr 3
    have h2 := (pgCells_get p.pages i y hy).2
    refine List.ext_getElem? fun k => ?_
    by_cases hk : k = i * 2 + 1
    · subst hk
      have hlt := (List.getElem?_eq_some_iff.1 h2).1
      rw [List.getElem?_set_ne (by omega), h2, List.getElem?_set_self (by simpa using hlt)]
    · rw [List.getElem?_set_ne (fun e => hk e.symm)]
/-- The cells of a page. -/
theorem PgX.cells {w : World} {pp dp gb mb : Nat} {p : Pg} {M F O : Nat → Prop} (h : PgX w pp dp gb mb p M F O) {i : Nat} {y : Nat × Nat} (hy : p.pages[i]? = some y) :
    w.cell? ⟨gb, i * 2, none⟩ = some (.int .i64 (y.1 : Int)) ∧ w.cell? ⟨gb, i * 2 + 1, none⟩ = some (.int .i64 (y.2 : Int)) ∧ w.frozen? ⟨gb, i * 2, none⟩ = false ∧ w.frozen? ⟨gb, i * 2 + 1, none⟩ = false ∧ gb < w.heap.size := by
  obtain ⟨h1, h2⟩ := pgCells_get p.pages i y hy
  refine ⟨?_, ?_, frozen_blk h.1.hg _, frozen_blk h.1.hg _, blk_lt h.1.hg⟩
  · rw [cell_blk h.1.hg]; simpa using h1
  · rw [cell_blk h.1.hg]; simpa using h2

/-- A list under way: the first j turned. -/
def till {α : Type} (f : α → α) (l : List α) (j : Nat) : List α := (l.take j).map f ++ l.drop j
theorem till_length {α : Type} (f : α → α) (l : List α) (j : Nat) : (till f l j).length = l.length := by simp [till]; omega
theorem till_get {α : Type} (f : α → α) (l : List α) (j : Nat) (h : j ≤ l.length) : (till f l j)[j]? = l[j]? := by
  unfold till
  have hl : ((l.take j).map f).length = j := by simp; omega
  rw [List.getElem?_append_right (by rw [hl]; exact Nat.le_refl _), hl, Nat.sub_self, List.getElem?_drop, Nat.add_zero]
theorem till_succ {α : Type} (f : α → α) (l : List α) (j : Nat) (x : α) (h : l[j]? = some x) : (till f l j).set j (f x) = till f l (j + 1) := by
  have hj := (List.getElem?_eq_some_iff.1 h).1
  have hx := (List.getElem?_eq_some_iff.1 h).2
  unfold till
  have hl : ((l.take j).map f).length = j := by simp; omega
  rw [List.set_append_right _ _ (by rw [hl]; exact Nat.le_refl _), hl, Nat.sub_self, List.drop_eq_getElem_cons hj, hx, List.set_cons_zero, List.take_add_one, h]
  simp
theorem till_same {α : Type} (f : α → α) (l : List α) (j : Nat) (x : α) (h : l[j]? = some x) (hf : f x = x) : till f l (j + 1) = till f l j := by
  rw [← till_succ f l j x h, hf]
  refine List.ext_getElem? fun k => ?_
  by_cases hk : k = j
  · subst hk
    have hj := (List.getElem?_eq_some_iff.1 h).1
    rw [List.getElem?_set_self (by rw [till_length]; exact hj), till_get f l k (by omega), h]
  · rw [List.getElem?_set_ne (fun e => hk e.symm)]
theorem till_zero {α : Type} (f : α → α) (l : List α) : till f l 0 = l := by simp [till]
theorem till_all {α : Type} (f : α → α) (l : List α) : till f l l.length = l.map f := by simp [till]

/-- What settle makes of a page. -/
def setl (pins : List Nat) (x : Nat × Nat) : Nat × Nat := if x.1 = 4 ∧ (∀ g ∈ pins, x.2 ≤ g) then (0, 0) else x
def settleP (p : Pg) : Pg := { p with pages := p.pages.map (setl p.pins) }
theorem low_ge {pins : List Nat} {X : Int} (h : LowIs pins X) {g : Nat} (hg : g ≤ 4611686018427387904) : (g : Int) ≤ X ↔ ∀ x ∈ pins, g ≤ x := by
  constructor
  · intro h1 x hx; have := h.1 x hx; omega
  · intro h1
    rcases h.2 with e | ⟨x, hx, e⟩
    · omega
    · have := h1 x hx; omega

set_option maxRecDepth 20000 in
set_option maxHeartbeats 2000000 in
theorem settle_any {pp dp gb mb : Nat} {p : Pg} {M F O : Nat → Prop} (w : World) (h : PgX w pp dp gb mb p M F O) :
    Calls Try.prog 100 #[.pointer (some ⟨pp, 0, none⟩)] w fun e w' => e = .returned (.tuple #[]) ∧ PgX w' pp dp gb mb (settleP p) M F O ∧ Ch O w w' := by
  have HLow := hid (low_any w h)
  have H0 := hid h
  have n2 := h.1.n2
  clear h
  go_enter Try.func100, Try.ntmps100
  go_wp2_with fail
  refine HLow.out.mono ?_
  rintro e w1 ⟨X, rfl, hL, hc⟩
  have HX := hid (H0.out.ch hc (fun _ _ h => h) (fun _ _ h => h))
  have HL := hid hL
  have HC := hid hc
  have c3 := cell_blk HX.out.1.hp 3
  simp at c3
  have HPg := hid H0.out.1.pg
  obtain ⟨n, HN⟩ : ∃ n, Hid (p.pages.length = n) := ⟨_, hid rfl⟩
  rw [HN.out] at c3 n2
  clear hc hL
  go_wp2_with fail
  clear c3
  go_loopw [12] (fun i wr => ∃ j : Nat, i = .int .i64 (j : Int) ∧ j ≤ n ∧ Hid (PgX wr pp dp gb mb { p with pages := till (setl p.pins) p.pages j } M F O) ∧ Hid (Ch O w wr)) (fun i _ => n - (intOf i).toNat)
  case atStart => exact ⟨0, rfl, Nat.zero_le _, hid (by rw [till_zero]; exact HX.out), hid (HC.out.mono (fun _ _ h => h.elim))⟩
  case round =>
    obtain ⟨j, rfl, hj, HI, HC⟩ := hrel
    have c3 := cell_blk HI.out.1.hp 3
    simp only [till_length] at c3
    simp at c3
    rw [HN.out] at c3
    by_cases hlt : j < n
    · obtain ⟨x, HXx⟩ : ∃ x, Hid (p.pages[j]? = some x) := ⟨p.pages[j]'(by rw [HN.out]; exact hlt), hid (List.getElem?_eq_getElem _)⟩
      have hxx : ({ p with pages := till (setl p.pins) p.pages j } : Pg).pages[j]? = some x := by
        show (till (setl p.pins) p.pages j)[j]? = some x
        rw [till_get _ _ _ (by rw [HN.out]; exact hj)]; exact HXx.out
      obtain ⟨q1, q2, q3, q4, q5⟩ := HI.out.cells hxx
      have hppz := blk_lt HI.out.1.hp
      have hnp : ¬ pp = wr.heap.size := by omega
      have hng : ¬ gb = wr.heap.size := by omega
      have ca := (Ch.refl (fun _ => False) wr).alloc (.cells #[.int .i64 (x.1 : Int), .int .i64 (x.2 : Int)] 155)
      have HI2 := hid (HI.out.ch ca (fun _ _ h => h) (fun _ _ h => h))
      have HC2 := hid (HC.out.alloc (.cells #[.int .i64 (x.1 : Int), .int .i64 (x.2 : Int)] 155))
      have hxb := HPg.out x (List.mem_of_getElem? HXx.out)
      clear hxx ca
      by_cases h4 : x.1 = 4
      · by_cases hall : ∀ g ∈ p.pins, x.2 ≤ g
        · have hge := (low_ge HL.out hxb).2 hall
          have HF : Hid (setl p.pins x = (0, 0)) := hid (by unfold setl; rw [if_pos ⟨h4, hall⟩])
          obtain ⟨g1, g2⟩ := HI.out.page2 j (0, 0) (by simp)
          have HNext : Hid (∀ (v : Value) (W : World), W = ((wr.setCell ⟨gb, j * 2, none⟩ (.int .i64 0)).setCell ⟨gb, j * 2 + 1, none⟩ (.int .i64 0)).alloc (.cells #[v, .int .i64 (x.2 : Int)] 155) → PgX W pp dp gb mb { p with pages := till (setl p.pins) p.pages (j + 1) } M F O ∧ Ch O w W) := hid (by
            rintro v W rfl
            rw [← till_succ _ _ _ _ HXx.out, HF.out]
            have g3 := (Ch.refl (fun _ => False) ((wr.setCell ⟨gb, j * 2, none⟩ (.int .i64 0)).setCell ⟨gb, j * 2 + 1, none⟩ (.int .i64 0))).alloc (.cells #[v, .int .i64 (x.2 : Int)] 155)
            exact ⟨g1.ch g3 (fun _ _ h => h) (fun _ _ h => h), (HC.out.then g2 (fun _ _ h => h)).alloc _⟩)
          have h4i : (x.1 : Int) = 4 := by omega
          rw [h4i] at q1
          clear g1 g2 h4 hall h4i
          go_wp2
          go_roundw
          case rel => exact ⟨j + 1, by go_num, by omega, hid (HNext.out _ _ rfl).1, hid (HNext.out _ _ rfl).2⟩
          case measure => simp [intOf]; omega
        · have hge : ¬ (x.2 : Int) ≤ X := fun h => hall ((low_ge HL.out hxb).1 h)
          have HF : Hid (setl p.pins x = x) := hid (by unfold setl; rw [if_neg (fun h => hall h.2)])
          have HNext : Hid (PgX (wr.alloc (.cells #[.int .i64 (x.1 : Int), .int .i64 (x.2 : Int)] 155)) pp dp gb mb { p with pages := till (setl p.pins) p.pages (j + 1) } M F O) := hid (by
            rw [till_same _ _ _ _ HXx.out HF.out]; exact HI2.out)
          have h4i : (x.1 : Int) = 4 := by omega
          rw [h4i] at q1 HNext HC2
          clear h4 hall h4i
          go_wp2
          go_roundw
          case rel => exact ⟨j + 1, by go_num, by omega, HNext, HC2⟩
          case measure => simp [intOf]; omega
      · have HF : Hid (setl p.pins x = x) := hid (by unfold setl; rw [if_neg (fun h => h4 h.1)])
        have HNext : Hid (PgX (wr.alloc (.cells #[.int .i64 (x.1 : Int), .int .i64 (x.2 : Int)] 155)) pp dp gb mb { p with pages := till (setl p.pins) p.pages (j + 1) } M F O) := hid (by
          rw [till_same _ _ _ _ HXx.out HF.out]; exact HI2.out)
        have h4b : ((x.1 : Int) == 4) = false := by rw [beq_eq_false_iff_ne]; omega
        clear h4
        go_wp2
        go_roundw
        case rel => exact ⟨j + 1, by go_num, by omega, HNext, HC2⟩
        case measure => simp [intOf]; omega
    · obtain rfl : j = n := by omega
      have fin : Hid (PgX wr pp dp gb mb (settleP p) M F O) := hid (by
        have := HI.out
        rw [← HN.out, till_all] at this
        exact this)
      go_wp2
      go_end0
      exact ⟨rfl, fin.out, HC.out⟩

end Go.Proofs.Ytadhibemadgcoaa
