/- Package pager: Pin, Unpin. Conditions: not more than a million pins. -/
import Derived.Test.YtadhibemadgcoaaPgG
namespace Go.Proofs.Ytadhibemadgcoaa
open Go.RowKit Go.MapKept Go.Maps

/-- A map of ints in memory: what it answers, what it has. -/
def PinW (w : World) (mb n : Nat) (f : Int → Int) (h : Int → Bool) : Prop :=
  ∃ D : DataW Unit, w.ownsMap Try.prog 3 (plainElem Try.prog 3) mb n D ∧ Maps.IsMap D ∧
    ∀ g : Int, (Lit.int .i64 g).wf = true → D.atKey (.int .i64 g) (.lit (.int .i64 0)) = .lit (.int .i64 (f g)) ∧ Maps.has D (.int .i64 g) = h g
theorem PinAt.gen {w : World} {mb n : Nat} {pins : List Nat} (h : PinAt w mb n pins) : PinW w mb n (fun g => (cnt pins g : Int)) (fun g => decide (cnt pins g ≠ 0)) := h
theorem PinW.back {w : World} {mb n : Nat} {pins : List Nat} {f : Int → Int} {h : Int → Bool} (hp : PinW w mb n f h) (hf : ∀ g, (Lit.int .i64 g).wf = true → f g = (cnt pins g : Int)) (hh : ∀ g, (Lit.int .i64 g).wf = true → h g = decide (cnt pins g ≠ 0)) : PinAt w mb n pins := by
  obtain ⟨D, h1, h2, h3⟩ := hp
  exact ⟨D, h1, h2, fun g hg => by rw [← hf g hg, ← hh g hg]; exact h3 g hg⟩
theorem Try.zero3 (w : World) : (zeroValue 3).run Try.prog w = .ok (.int .i64 0) w := by kernel_rfl
theorem PinW.ask {w : World} {mb n : Nat} {f : Int → Int} {h : Int → Bool} (hp : PinW w mb n f h) (g : Int) (hw : (Lit.int .i64 g).wf = true) : (Instr.lookup 151 (.map (some mb)) (.int .i64 g) false).run Try.prog w = .ok (.int .i64 (f g)) w := by
  obtain ⟨D, h1, _, h3⟩ := hp
  obtain ⟨c, hrun, hat, _⟩ := h1.lookup_int (int_keyed Try.underlying3) Try.underlying151 Try.underlying3 (Try.zero3 w) (keyOf_int_mk Try.underlying3 hw)
  rw [(h3 g hw).1] at hat
  simp only [DataW.lit.injEq, Lit.int.injEq, true_and] at hat
  rw [hrun, hat]
theorem PinW.put {w : World} {mb n : Nat} {f : Int → Int} {h : Int → Bool} (hp : PinW w mb n f h) (hn : n < maxLen) (g v : Int) (hw : (Lit.int .i64 g).wf = true) (hv : (Lit.int .i64 v).wf = true) :
    ∃ w', (Instr.mapUpdate 151 (.map (some mb)) (.int .i64 g) (.int .i64 v)).run Try.prog w = .ok () w' ∧ PinW w' mb (n + 1) (fun k => if k = g then v else f k) (fun k => if k = g then true else h k) ∧ Ch (fun k => k = mb) w w' := by
  obtain ⟨D, h1, h2, h3⟩ := hp
  have K := int_keyed (P := Try.prog) Try.underlying3
  have hkey := keyOf_int_mk (P := Try.prog) Try.underlying3 hw
  obtain ⟨w', r1, r2, r3⟩ := h1.update K Try.underlying151 hn hkey (plainElem_int Try.underlying3 hv)
  refine ⟨w', r1, ⟨_, r2, ?_, fun k hk => ?_⟩, (Ch.refl _ w).grown r3 (fun q hq _ => by cases hq; rfl)⟩
  · obtain ⟨es, rfl⟩ := h2; exact ⟨_, rfl⟩
  · by_cases hkg : k = g
    · subst hkg
      simp only [if_true]
      exact ⟨atKey_put_same h2 (K.key hkey) _ _, has_put_same h2 (K.key hkey) _⟩
    · simp only [if_neg hkg]
      have hne : (Lit.int .i64 k) ≠ Lit.int .i64 g := by intro e; cases e; exact hkg rfl
      rw [atKey_put_other hne, has_put_other hne]
      exact h3 k hk
/-- delete, its run known, as an operation of a list. -/
theorem wpList_delete_run {P : Program} {w : World} {ops : Array Oper} {rest : List Oper} {o : Oper} {a : Act} {Q : Exit → Act → World → Prop}
    (hg : o.guard = none) (x y : Operand) (tx ty : TypeId) (hop : o.op = Op.call { callee := Callee.builtin .delete, args := #[x, y], argTypes := #[tx, ty] })
    (v : Value) (w' : World) (hrun : (Builtin.delete_ #[tx, ty] o.type #[a.eval x, a.eval y]).run P w = .ok v w')
    (hK : wpList P ops Q rest (a.put o.dst v) w') : wpList P ops Q (o :: rest) a w := by
  refine wpList_plain hg fun K hK' => ?_
  unfold Oper.wp
  simp [execOp, hop, resolve, invoke, builtin, hrun, Result.andThen]
  exact hK' _ _ hK
theorem ch_of_turned {w w' : World} {b : Nat} (h : w.mapTurned w' b) : Ch (fun k => k = b) w w' := (Ch.refl _ w).grown (h.grown) (fun q hq _ => by cases hq; rfl)
theorem PinW.del {w : World} {mb n : Nat} {f : Int → Int} {h : Int → Bool} (hp : PinW w mb n f h) (g : Int) (hw : (Lit.int .i64 g).wf = true) (ty : TypeId) :
    ∃ w', (Builtin.delete_ #[151, 3] ty #[.map (some mb), .int .i64 g]).run Try.prog w = .ok (.tuple #[]) w' ∧ PinW w' mb n (fun k => if k = g then 0 else f k) (fun k => if k = g then false else h k) ∧ Ch (fun k => k = mb) w w' := by
  obtain ⟨D, h1, h2, h3⟩ := hp
  have K := int_keyed (P := Try.prog) Try.underlying3
  have hkey := keyOf_int_mk (P := Try.prog) Try.underlying3 hw
  obtain ⟨w', r1, r2, r3⟩ := h1.drop K Try.underlying151 hkey ty
  refine ⟨w', r1, ⟨_, r2, ?_, fun k hk => ?_⟩, ch_of_turned r3⟩
  · obtain ⟨es, rfl⟩ := h2; exact ⟨_, rfl⟩
  · by_cases hkg : k = g
    · subst hkg
      simp only [if_true]
      exact ⟨atKey_del_same _, has_del_same⟩
    · simp only [if_neg hkg]
      have hne : (Lit.int .i64 k) ≠ Lit.int .i64 g := by intro e; cases e; exact hkg rfl
      rw [atKey_del_other hne, has_del_other hne]
      exact h3 k hk
theorem PinW.frame {w w' : World} {mb n : Nat} {f : Int → Int} {h : Int → Bool} (hp : PinW w mb n f h) (hb : w'.heap[mb]? = w.heap[mb]?) : PinW w' mb n f h := by
  obtain ⟨D, ⟨es, clock, h1, r⟩, h⟩ := hp
  exact ⟨D, ⟨es, clock, hb.trans h1, r⟩, h⟩

/-- The pins alone have turned. -/
theorem PgX.pinned {w w' : World} {pp dp gb mb : Nat} {p : Pg} {M F O : Nat → Prop} (h : PgX w pp dp gb mb p M F O) (hc : Ch (fun k => k = mb) w w') (pins : List Nat) (ops : Nat) (hm : PinAt w' mb ops pins) (hn : ∀ g ∈ pins, g ≤ 4611686018427387904) (hl : pins.length ≤ ops) :
    PgX w' pp dp gb mb { p with pins := pins, ops := ops } M F O := by
  obtain ⟨h1, h2, h3, h4, h5, h6, h7⟩ := h
  have e1 : pp ≠ mb := fun e => by
    obtain ⟨D, ⟨es, clock, hb, _⟩, _⟩ := h1.hm
    have := h1.hp.symm.trans (e ▸ hb)
    cases this
  have e2 : gb ≠ mb := fun e => by
    obtain ⟨D, ⟨es, clock, hb, _⟩, _⟩ := h1.hm
    have := h1.hg.symm.trans (e ▸ hb)
    cases this
  exact ⟨⟨h1.n1, h1.n2, h1.gen, h1.pg, hn, hl, (hc.block pp (h7 _ h4).2 e1).trans h1.hp, (hc.block gb (h7 _ h5).2 e2).trans h1.hg, hm⟩, h2.ch hc (fun k hf e => (h7 mb h6).1 (e ▸ hf)), h3, h4, h5, h6, fun k hk => ⟨(h7 k hk).1, Nat.lt_of_lt_of_le (h7 k hk).2 hc.size⟩⟩

theorem cnt_snoc (pins : List Nat) (g : Nat) (k : Int) : cnt (pins ++ [g]) k = cnt pins k + if k = (g : Int) then 1 else 0 := by
  unfold cnt
  rw [List.filter_append, List.length_append]
  by_cases h : k = (g : Int)
  · rw [if_pos h]; simp [h]
  · rw [if_neg h]
    have : ¬ (g : Int) = k := fun e => h e.symm
    simp [this]
theorem cnt_le (pins : List Nat) (k : Int) : cnt pins k ≤ pins.length := List.length_filter_le _ _
theorem cnt_erase (pins : List Nat) (g : Nat) (k : Int) : cnt (pins.erase g) k = if k = (g : Int) then cnt pins k - 1 else cnt pins k := by
  induction pins with
  | nil => simp [cnt]
  | cons x l ih =>
    by_cases hx : x = g
    · subst hx
      rw [List.erase_cons_head]
      unfold cnt
      rw [List.filter_cons]
      by_cases h : k = (x : Int)
      · rw [if_pos h, if_pos (by simp [h]), List.length_cons]; omega
      · rw [if_neg h, if_neg (by simp; exact fun e => h e.symm)]
    · rw [List.erase_cons_tail (by simpa using hx)]
      unfold cnt at ih ⊢
      rw [List.filter_cons, List.filter_cons]
      by_cases hk : (x : Int) = k
      · have hkg : ¬ k = (g : Int) := fun e => hx (by omega)
        rw [if_neg hkg] at ih ⊢
        rw [if_pos (by simpa using hk), if_pos (by simpa using hk), List.length_cons, List.length_cons, ih]
      · have hxk : ((x : Int) == k) = false := by simpa using hk
        simp only [hxk, Bool.false_eq_true, if_false]
        exact ih

def pinP (p : Pg) : Pg := { p with pins := p.pins ++ [p.gen], ops := p.ops + 1 }
theorem pin_none (w : World) : Calls Try.prog 65 #[.pointer none] w fun e w' => e = .returned (.int .i64 0) ∧ w = w' := by
  go_enter Try.func65, Try.ntmps65
  go_wp2
  go_ret
  exact ⟨rfl, rfl⟩
set_option maxRecDepth 20000 in
set_option maxHeartbeats 1000000 in
theorem pin_any {pp dp gb mb : Nat} {p : Pg} {M F O : Nat → Prop} (w : World) (h : PgX w pp dp gb mb p M F O) (hops : p.ops ≤ 1000000) :
    Calls Try.prog 65 #[.pointer (some ⟨pp, 0, none⟩)] w fun e w' => e = .returned (.int .i64 (p.gen : Int)) ∧ PgX w' pp dp gb mb (pinP p) M F O ∧ Ch O w w' := by
  have HX := hid h
  have c0 := cell_blk h.1.hp 0
  have c1 := cell_blk h.1.hp 1
  have c4 := cell_blk h.1.hp 4
  simp at c0 c1 c4
  have hgen := h.1.gen
  have hpc := h.1.pc
  obtain ⟨g, HG⟩ : ∃ g, Hid (p.gen = g) := ⟨_, hid rfl⟩
  rw [HG.out] at c1 hgen ⊢
  have hw : (Lit.int .i64 (g : Int)).wf = true := int_wf (by omega) (by omega)
  have hcl := cnt_le p.pins (g : Int)
  have hpd := (h.drew.1.hm).gen
  have hask := hpd.ask (g : Int) hw
  obtain ⟨w2, hput, hW2, hc2⟩ := hpd.put (by unfold maxLen; omega) (g : Int) ((cnt p.pins (g : Int) : Int) + 1) hw (int_wf (by omega) (by omega))
  have fin : Hid (PgX w2 pp dp gb mb (pinP p) M F O ∧ Ch O w w2) := hid (by
    refine ⟨h.drew.pinned hc2 _ _ (hW2.back (fun k _ => ?_) (fun k _ => ?_)) ?_ ?_, ((Ch.refl O w).drew).then hc2 (fun i _ e => by subst e; exact h.2.2.2.2.2.1)⟩
    · rw [HG.out, cnt_snoc]
      by_cases hk : k = (g : Int)
      · simp [hk]
      · simp [hk]
    · rw [HG.out, cnt_snoc]
      by_cases hk : k = (g : Int)
      · simp [hk]
      · simp [hk]
    · intro x hx
      rcases List.mem_append.1 hx with hx | hx
      · exact h.1.pn x hx
      · simp at hx; subst hx; exact h.1.gen
    · show (p.pins ++ [p.gen]).length ≤ p.ops + 1
      rw [List.length_append]; simp; omega)
  have hwg : w2.cell? ⟨pp, 1, none⟩ = some (.int .i64 (g : Int)) := by
    have := cell_blk fin.out.1.1.hp 1
    simp at this
    rw [this]
    show some (Value.int IntKind.i64 ((pinP p).gen : Int)) = _
    rw [show (pinP p).gen = p.gen from rfl, HG.out]
  obtain ⟨cn, hcn⟩ : ∃ cn : Int, cn = (cnt p.pins (g : Int) : Int) := ⟨_, rfl⟩
  have hcn1 : 0 ≤ cn := by omega
  have hcn2 : cn ≤ 1000000 := by omega
  simp only [← hcn] at hask hput
  clear h hpd hW2 hc2 hcn hcl
  go_enter Try.func65, Try.ntmps65
  go_wp2_with fail
  refine region_tail 10 (by kernel_rfl) (by kernel_rfl) ?_
  simp only [List.take_succ_cons, List.take_zero, List.drop_succ_cons, List.drop_zero]
  repeat still_step
  refine wpStill_nil ?_
  go_wp2
  rw [hput]
  go_wp2
  go_ret
  exact ⟨rfl, fin.out.1, fin.out.2⟩

/-- Unpin. -/
def unpinP (p : Pg) (g : Int) : Nat × Pg := if cnt p.pins g = 0 then (7, p) else (0, settleP { p with pins := p.pins.erase g.toNat, ops := p.ops + 1 })
theorem unpin_none (g : Int) (w : World) : Calls Try.prog 67 #[.pointer none, .int .i64 g] w fun e w' => e = .returned (.int .i64 1) ∧ w = w' := by
  go_enter Try.func67, Try.ntmps67
  go_wp2
  go_ret
  exact ⟨rfl, rfl⟩
set_option maxRecDepth 20000 in
set_option maxHeartbeats 2000000 in
theorem unpin_any {pp dp gb mb : Nat} {p : Pg} {M F O : Nat → Prop} (g : Int) (w : World) (h : PgX w pp dp gb mb p M F O) (hops : p.ops ≤ 1000000) (hw : (Lit.int .i64 g).wf = true) :
    Calls Try.prog 67 #[.pointer (some ⟨pp, 0, none⟩), .int .i64 g] w fun e w' => e = .returned (.int .i64 ((unpinP p g).1 : Nat)) ∧ PgX w' pp dp gb mb (unpinP p g).2 M F O ∧ Ch O w w' := by
  have HX := hid h
  have c0 := cell_blk h.1.hp 0
  have c4 := cell_blk h.1.hp 4
  simp at c0 c4
  have hpc := h.1.pc
  have hcl := cnt_le p.pins g
  have hask := (h.1.hm).gen.ask g hw
  by_cases h0 : cnt p.pins g = 0
  · have e : unpinP p g = (7, p) := by unfold unpinP; rw [if_pos h0]
    rw [e]
    rw [h0] at hask
    clear h e h0 hcl
    go_enter Try.func67, Try.ntmps67
    go_wp2
    go_ret
    exact ⟨rfl, HX.out, Ch.refl _ _⟩
  · obtain ⟨x, hx, hxg⟩ := cnt_neg h0
    have HE : Hid (unpinP p g = (0, settleP { p with pins := p.pins.erase g.toNat, ops := p.ops + 1 })) := hid (by unfold unpinP; rw [if_neg h0])
    rw [HE.out]
    have htn : g.toNat = x := by omega
    obtain ⟨w2, hput, hW2, hc2⟩ := (h.1.hm).gen.put (by unfold maxLen; omega) g ((cnt p.pins g : Int) - 1) hw (int_wf (by omega) (by omega))
    have hask2 := hW2.ask g hw
    simp only [if_true] at hask2
    obtain ⟨cn, hcn⟩ : ∃ cn : Int, cn = (cnt p.pins g : Int) := ⟨_, rfl⟩
    have hcn1 : 1 ≤ cn := by omega
    have hcn2 : cn ≤ 1000000 := by omega
    have hcb : (cn == 0) = false := by rw [beq_eq_false_iff_ne]; omega
    have hO := h.2.2.2.2.2.1
    have hpp : pp ≠ mb := fun e => by
      obtain ⟨D, ⟨es, clock, hb, _⟩, _⟩ := h.1.hm
      have := h.1.hp.symm.trans (e ▸ hb)
      cases this
    have c4b : w2.cell? ⟨pp, 4, none⟩ = some (.map (some mb)) := by rw [World.cell?_of_block (hc2.block pp (blk_lt h.1.hp) hpp)]; exact c4
    have hlen : (p.pins.erase g.toNat).length ≤ p.ops + 1 := Nat.le_trans (List.length_erase_le) (by omega)
    have hmem : ∀ k ∈ p.pins.erase g.toNat, k ≤ 4611686018427387904 := fun k hk => h.1.pn k (List.mem_of_mem_erase hk)
    by_cases h1 : cn = 1
    · obtain ⟨w3, hdel, hW3, hc3⟩ := hW2.del g hw 0
      have hat : PgX w3 pp dp gb mb { p with pins := p.pins.erase g.toNat, ops := p.ops + 1 } M F O := h.pinned (hc2.trans hc3) _ _ (hW3.back (fun k _ => by
          rw [htn, cnt_erase]
          by_cases hk : k = g
          · simp [hk, hxg]; omega
          · have : ¬ k = (x : Int) := by omega
            simp [hk, this]) (fun k _ => by
          rw [htn, cnt_erase]
          by_cases hk : k = g
          · simp [hk, hxg]; omega
          · have : ¬ k = (x : Int) := by omega
            simp [hk, this])) hmem hlen
      have HSe := hid (settle_any w3 hat)
      have HC3 : Hid (Ch O w w3) := hid ((hc2.trans hc3).mono (fun k _ e => by subst e; exact hO))
      rw [← hcn, h1] at hask hput hask2
      rw [show (1 : Int) - 1 = 0 from rfl] at hput hask2
      have HDel := hid hdel
      clear h hW2 hc2 hW3 hc3 hat hcn hcl h0 hx hxg htn hlen hmem h1 hcb hdel
      go_enter Try.func67, Try.ntmps67
      go_wp2_with (at_delete; refine wpList_delete_run rfl (.tmp 40) (.tmp 41) 151 3 rfl _ _ HDel.out ?_)
      refine HSe.out.mono ?_
      rintro e w9 ⟨rfl, hX9, c9⟩
      have HX9 := hid hX9
      have HC9 := hid (HC3.out.then c9 (fun _ _ h => h))
      clear hX9 c9
      go_wp2_with fail
      go_ret
      exact ⟨rfl, HX9.out, HC9.out⟩
    · have h1b : (cn - 1 == 0) = false := by rw [beq_eq_false_iff_ne]; omega
      have hat : PgX w2 pp dp gb mb { p with pins := p.pins.erase g.toNat, ops := p.ops + 1 } M F O := h.pinned hc2 _ _ (hW2.back (fun k _ => by
          rw [htn, cnt_erase]
          by_cases hk : k = g
          · simp [hk, hxg]; omega
          · have : ¬ k = (x : Int) := by omega
            simp [hk, this]) (fun k _ => by
          rw [htn, cnt_erase]
          by_cases hk : k = g
          · simp [hk, hxg]; omega
          · have : ¬ k = (x : Int) := by omega
            simp [hk, this])) hmem hlen
      have HSe := hid (settle_any w2 hat)
      have HC2 : Hid (Ch O w w2) := hid (hc2.mono (fun k _ e => by subst e; exact hO))
      rw [← hcn] at hask hput hask2
      clear h hW2 hc2 hat hcn hcl h0 hx hxg htn hlen hmem h1
      go_enter Try.func67, Try.ntmps67
      go_wp2_with fail
      refine HSe.out.mono ?_
      rintro e w9 ⟨rfl, hX9, c9⟩
      have HX9 := hid hX9
      have HC9 := hid (HC2.out.then c9 (fun _ _ h => h))
      clear hX9 c9
      go_wp2_with fail
      go_ret
      exact ⟨rfl, HX9.out, HC9.out⟩

end Go.Proofs.Ytadhibemadgcoaa
