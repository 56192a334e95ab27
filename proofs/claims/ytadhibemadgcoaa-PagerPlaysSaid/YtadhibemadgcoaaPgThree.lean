/- Pagers: pins, Use, a cut of power: plain laws; the law's without. Conditions: as each theorem says. -/
import Derived.Test.YtadhibemadgcoaaPgTwo
import Derived.Test.YtadhibemadgcoaaPageOne
namespace Go.Proofs.Ytadhibemadgcoaa

section
open Go.RowKit

section
variable {w0 : World} {pp dp : Nat} {p : Pg} {Q : Nat → Prop}
theorem pin_z (w : World) (h : PZ w0 w pp dp p Q) (ho : p.ops ≤ 1000000) :
    Calls Try.prog 65 #[.pointer (some ⟨pp, 0, none⟩)] w fun e w' => e = .returned (.int .i64 (p.gen : Int)) ∧ ZPost w0 w pp dp (pinP p) Q w' := by
  obtain ⟨gb, mb, M, F, O, h1, h2, h3, h4, h5⟩ := id h
  refine (pin_any w h1 ho).mono ?_
  rintro e w' ⟨rfl, k1, k4⟩
  exact ⟨rfl, ZPost.mk' h h2 h3 k1 (Fresh.refl _ _) (k4.mono fun i _ hi => h3 i hi)⟩
theorem unpin_z (g : Int) (w : World) (h : PZ w0 w pp dp p Q) (ho : p.ops ≤ 1000000) (hw : (Lit.int .i64 g).wf = true) :
    Calls Try.prog 67 #[.pointer (some ⟨pp, 0, none⟩), .int .i64 g] w fun e w' => e = .returned (.int .i64 ((unpinP p g).1 : Nat)) ∧ ZPost w0 w pp dp (unpinP p g).2 Q w' := by
  obtain ⟨gb, mb, M, F, O, h1, h2, h3, h4, h5⟩ := id h
  refine (unpin_any g w h1 ho hw).mono ?_
  rintro e w' ⟨rfl, k1, k4⟩
  exact ⟨rfl, ZPost.mk' h h2 h3 k1 (Fresh.refl _ _) (k4.mono fun i _ hi => h3 i hi)⟩
end

/-- The committed pages of a pinned pager are dropped, one after the other. -/
structure PiD (p : Pg) (n k m j : Nat) (has : List (Nat × ByteArray)) : Prop where
  hp : HP p n k
  gen : p.gen = 2
  pins : p.pins = [2]
  ops : p.ops = 1
  le : j ≤ has.length
  len : has.length = m
  room : m + 2 ≤ n
  pages : p.pages = (0, 0) :: (0, 0) :: (List.replicate j (3, 0) ++ (List.replicate (m - j) (1, 0) ++ List.replicate (n - 2 - m) (0, 0)))
  ok : HasOk p.d has
theorem Begun.pin {p : Pg} {n : Nat} {has : List (Nat × ByteArray)} (h : Begun p n has) (hn : 14 ≤ n) : PiD (pinP p) n 2000 has.length 0 has :=
  ⟨⟨h.hp.hl, h.hp.dead, h.hp.len, h.hp.n4⟩, h.gen, by show p.pins ++ [p.gen] = [2]; rw [h.pins, h.gen]; rfl, by show p.ops + 1 = 1; rw [h.ops], Nat.zero_le _, rfl, by have := h.len; omega, by show p.pages = _; rw [h.pages]; rfl, h.ok⟩
theorem PiD.free {p : Pg} {n k m : Nat} {has : List (Nat × ByteArray)} (h : PiD p n k m 0 has) : freeL p.pages = n - 2 - m := by
  rw [h.pages]; exact bPages_free n m
theorem PiD.step {p : Pg} {n k m j : Nat} {has : List (Nat × ByteArray)} (h : PiD p n k m j has) {x : Nat × ByteArray} (hx : has[j]? = some x) :
    ∃ p', dropP p (x.1 : Int) = (0, p') ∧ PiD p' n k m (j + 1) has := by
  obtain ⟨h1, h2, h3⟩ := h.ok j x hx
  have hj := (List.getElem?_eq_some_iff.1 hx).1
  have hlen := h.len
  have hroom := h.room
  have e0 : m - j = (m - (j + 1)) + 1 := by omega
  have e1 : p.pages = (0, 0) :: (0, 0) :: (List.replicate j (3, 0) ++ (1, 0) :: (List.replicate (m - (j + 1)) (1, 0) ++ List.replicate (n - 2 - m) (0, 0))) := by rw [h.pages, e0, List.replicate_succ]; rfl
  have hg : p.pages[j + 2]? = some (1, 0) := by
    rw [e1]
    show (List.replicate j (3, 0) ++ (1, 0) :: (List.replicate (m - (j + 1)) (1, 0) ++ List.replicate (n - 2 - m) (0, 0)))[j]? = _
    rw [List.getElem?_append_right (by simp)]; simp
  rw [h1]
  refine ⟨_, h.hp.drop1 (j + 2) 0 (by omega) (by omega) hg, ⟨⟨h.hp.hl, h.hp.dead, by show (p.pages.set _ _).length = n; simp [h.hp.len], h.hp.n4⟩, h.gen, h.pins, h.ops, by omega, h.len, h.room, ?_, h.ok⟩⟩
  show p.pages.set (j + 2) (3, 0) = _
  rw [e1]
  show (0, 0) :: (0, 0) :: ((List.replicate j (3, 0) ++ (1, 0) :: (List.replicate (m - (j + 1)) (1, 0) ++ List.replicate (n - 2 - m) (0, 0))).set j (3, 0)) = _
  rw [set_rep, rep_snoc]

/-- What those that were dropped are behind i commits. -/
def cP (i : Nat) : Nat × Nat := if i = 0 then (3, 0) else (4, 3)
theorem cP_turn (i : Nat) : setl [2] (cmF (2 + i + 1) (cP i)) = (4, 3) := by
  unfold cP
  by_cases h : i = 0
  · subst h; decide
  · rw [if_neg h]; simp [cmF, setl]
theorem cP_ne (i : Nat) : (cP i).1 ≠ 0 := by unfold cP; split <;> simp
/-- i commits with other pages, q of which are put. -/
structure PiI (p : Pg) (n k m q i : Nat) (has : List (Nat × ByteArray)) : Prop where
  hp : HP p n k
  gen : p.gen = 2 + i
  pins : p.pins = [2]
  ops : p.ops = 1
  len : has.length = m
  room : m + q + 2 ≤ n
  qi : q = min i (n - 2 - m)
  pages : p.pages = (0, 0) :: (0, 0) :: (List.replicate m (cP i) ++ (List.replicate q (1, 0) ++ List.replicate (n - 2 - m - q) (0, 0)))
  ok : HasOk p.d has
theorem PiD.piI {p : Pg} {n k m : Nat} {has : List (Nat × ByteArray)} (h : PiD p n k m m has) : PiI p n k m 0 0 has :=
  ⟨h.hp, h.gen, h.pins, h.ops, h.len, by have := h.room; omega, by omega, by rw [h.pages]; simp [cP], h.ok⟩
theorem com_core {p : Pg} {n k m i : Nat} {has : List (Nat × ByteArray)} {A B : List (Nat × Nat)} (s : List UInt8) (hs : s.length ≤ 490) (hi : i ≤ 1000) (hp : HP p n k) (hg : p.gen = 2 + i) (hpi : p.pins = [2]) (ho : p.ops = 1)
    (hpg : p.pages = (0, 0) :: (0, 0) :: (List.replicate m (cP i) ++ A)) (hA : A.map (fun x => setl [2] (cmF (2 + i + 1) x)) = B) (hok : HasOk p.d has) (hn : has.length + 2 ≤ n) :
    ∃ p2, commitP p s = (0, p2) ∧ HP p2 n (k + 3) ∧ p2.gen = 2 + (i + 1) ∧ p2.pins = [2] ∧ p2.ops = 1 ∧ p2.pages = (0, 0) :: (0, 0) :: (List.replicate m (4, 3) ++ B) ∧ HasOk p2.d has := by
  obtain ⟨d1, c1, c2, c3, c4⟩ := hp.commit s (by rw [hg]; omega) hs
  rw [hg, hpg] at c1
  rw [hg] at c4
  have e : settleP { p with d := d1, gen := 2 + i + 1, root := s, pages := List.map (cmF (2 + i + 1)) ((0, 0) :: (0, 0) :: (List.replicate m (cP i) ++ A)) } = { p with d := d1, gen := 2 + i + 1, root := s, pages := (0, 0) :: (0, 0) :: (List.replicate m (4, 3) ++ B) } := by
    unfold settleP
    simp only [hpi, List.map_cons, List.map_append, List.map_replicate, List.map_map, cP_turn]
    have e0 : setl [2] (cmF (2 + i + 1) (0, 0)) = (0, 0) := by simp [cmF, setl]
    have e1 : List.map (setl [2] ∘ cmF (2 + i + 1)) A = B := hA
    rw [e0, e1]
  rw [e] at c1
  refine ⟨_, c1, ⟨c2, hp.dead, ?_, hp.n4⟩, by show 2 + i + 1 = _; omega, hpi, ho, rfl, fun j x hx => ?_⟩
  · have h1 := hp.len
    rw [hpg] at h1
    rw [← hA]
    simpa using h1
  · obtain ⟨h1, h2, h3⟩ := hok j x hx
    have hj := (List.getElem?_eq_some_iff.1 hx).1
    exact ⟨h1, h2, by show cont d1 x.1 = _; rw [c4 _ (by omega), if_neg (by omega)]; exact h3⟩
theorem rest_turn (i q r : Nat) : (List.replicate q ((1 : Nat), (0 : Nat)) ++ List.replicate r (0, 0)).map (fun x => setl [2] (cmF (2 + i + 1) x)) = List.replicate q (1, 0) ++ List.replicate r (0, 0) := by
  have e0 : setl [2] (cmF (2 + i + 1) (0, 0)) = (0, 0) := by simp [cmF, setl]
  have e1 : setl [2] (cmF (2 + i + 1) (1, 0)) = (1, 0) := by simp [cmF, setl]
  rw [List.map_append, List.map_replicate, List.map_replicate, e0, e1]
theorem PiI.putOk {p : Pg} {n k m q i : Nat} {has : List (Nat × ByteArray)} (h : PiI p n k m q i has) (hq : q < n - 2 - m) (hi : i ≤ 1000) (s : List UInt8) (hs : s.length ≤ 492) :
    ∃ p1 p2, putP p 1 s = (m + q + 2, 0, p1) ∧ HP p1 n (k + 1) ∧ commitP p1 [120] = (0, p2) ∧ PiI p2 n (k + 4) m (q + 1) (i + 1) has := by
  have hroom := h.room
  have hlen := h.len
  have hqi := h.qi
  have e0 : n - 2 - m - q = (n - 2 - m - (q + 1)) + 1 := by omega
  have e1 : p.pages = (0, 0) :: (0, 0) :: (List.replicate m (cP i) ++ (List.replicate q (1, 0) ++ (0, 0) :: List.replicate (n - 2 - m - (q + 1)) (0, 0))) := by rw [h.pages, e0, List.replicate_succ]
  have e2 : ffL p.pages = m + q + 2 := by rw [e1, ffL_two, find_rep _ _ (cP_ne i), find_rep _ _ (by simp), List.findIdx_cons]; simp; omega
  obtain ⟨d', k1, k2, k3⟩ := h.hp.put 1 s (m + q + 2) (by omega) (by rw [h.gen]; omega) hs e2 (by omega)
  have e3 : p.pages.set (m + q + 2) (2, (p.pages.getD (m + q + 2) (0, 0)).2) = (0, 0) :: (0, 0) :: (List.replicate m (cP i) ++ (List.replicate q (1, 0) ++ (2, 0) :: List.replicate (n - 2 - m - (q + 1)) (0, 0))) := by
    have g : (p.pages.getD (m + q + 2) (0, 0)).2 = 0 := by
      rw [e1]
      show ((List.replicate m (cP i) ++ (List.replicate q (1, 0) ++ (0, 0) :: List.replicate (n - 2 - m - (q + 1)) (0, 0))).getD (m + q) (0, 0)).2 = 0
      rw [List.getD, List.getElem?_append_right (by simp), List.getElem?_append_right (by simp)]; simp
    rw [g, e1]
    show (0, 0) :: (0, 0) :: ((List.replicate m (cP i) ++ (List.replicate q (1, 0) ++ (0, 0) :: List.replicate (n - 2 - m - (q + 1)) (0, 0))).set (m + q) (2, 0)) = _
    rw [List.set_append_right _ _ (by simp), List.length_replicate, Nat.add_sub_cancel_left, set_rep]
  rw [e3] at k1
  have H1 : HP { p with d := d', pages := (0, 0) :: (0, 0) :: (List.replicate m (cP i) ++ (List.replicate q (1, 0) ++ (2, 0) :: List.replicate (n - 2 - m - (q + 1)) (0, 0))) } n (k + 1) :=
    ⟨k2, h.hp.dead, by simp; omega, h.hp.n4⟩
  have hok : HasOk d' has := by
    intro j x hx
    obtain ⟨h1, h2, h3⟩ := h.ok j x hx
    have hj := (List.getElem?_eq_some_iff.1 hx).1
    exact ⟨h1, h2, by rw [k3, if_neg (by omega)]; exact h3⟩
  obtain ⟨p2, c1, c2, c3, c4, c5, c6, c7⟩ := com_core (has := has) (B := List.replicate (q + 1) (1, 0) ++ List.replicate (n - 2 - m - (q + 1)) (0, 0)) [120] (by simp) hi H1 h.gen h.pins h.ops rfl (by
    have e : setl [2] (cmF (2 + i + 1) (2, 0)) = (1, 0) := by simp [cmF, setl]
    have e' := rest_turn i 0 (n - 2 - m - (q + 1))
    have e'' := rest_turn i q 0
    simp only [List.replicate_zero, List.nil_append, List.append_nil] at e' e''
    rw [List.map_append, List.map_cons, e, e', e'', rep_snoc]) hok (by omega)
  refine ⟨_, p2, k1, H1, c1, ⟨c2.up (by omega), c3, c4, c5, hlen, by omega, by omega, ?_, c7⟩⟩
  rw [c6]; rfl
theorem PiI.putFull {p : Pg} {n k m q i : Nat} {has : List (Nat × ByteArray)} (h : PiI p n k m q i has) (hq : ¬ q < n - 2 - m) (hi : i ≤ 1000) (s : List UInt8) (hs : s.length ≤ 492) :
    ∃ p2, putP p 1 s = (0, 6, p) ∧ commitP p [120] = (0, p2) ∧ PiI p2 n (k + 4) m q (i + 1) has := by
  have hroom := h.room
  have hlen := h.len
  have hqi := h.qi
  have e0 : n - 2 - m - q = 0 := by omega
  have e1 : p.pages = (0, 0) :: (0, 0) :: (List.replicate m (cP i) ++ List.replicate q (1, 0)) := by rw [h.pages, e0]; simp
  have e2 : ffL p.pages = n := by rw [e1, ffL_two, find_rep _ _ (cP_ne i), find_rep0 _ _ (by simp)]; omega
  have k1 := h.hp.full 1 s (by omega) (by rw [h.gen]; omega) hs e2
  obtain ⟨p2, c1, c2, c3, c4, c5, c6, c7⟩ := com_core (has := has) [120] (by simp) hi h.hp h.gen h.pins h.ops h.pages (rest_turn i q _) h.ok (by omega)
  refine ⟨p2, k1, c1, ⟨c2.up (by omega), c3, c4, c5, hlen, by omega, by omega, ?_, c7⟩⟩
  rw [c6]; rfl
theorem PiI.up {p : Pg} {n k k' m q i : Nat} {has : List (Nat × ByteArray)} (h : PiI p n k m q i has) (hk : k ≤ k') : PiI p n k' m q i has := ⟨h.hp.up hk, h.gen, h.pins, h.ops, h.len, h.room, h.qi, h.pages, h.ok⟩
theorem PiI.read {p : Pg} {n k m q i j : Nat} {has : List (Nat × ByteArray)} (h : PiI p n k m q i has) (hm : m ≤ 12) {x : Nat × ByteArray} (hx : has[j]? = some x) : readP p (x.1 : Int) = ((j, x.2.data.toList, 0), p) := by
  obtain ⟨h1, h2, h3⟩ := h.ok j x hx
  have hj := (List.getElem?_eq_some_iff.1 hx).1
  have hlen := h.len
  have hroom := h.room
  have hg : p.pages[j + 2]? = some (cP i) := by
    rw [h.pages]
    show (List.replicate m (cP i) ++ _)[j]? = _
    rw [List.getElem?_append_left (by simp; omega), List.getElem?_replicate, if_pos (by omega)]
  rw [h1]
  rw [h1] at h3
  exact h.hp.read (j + 2) (by omega) (by omega) _ hg (cP_ne i) j 2 _ h3 (by omega) (by omega) (by rw [size_toList]; exact h2)
theorem PiI.free {p : Pg} {n k m q i : Nat} {has : List (Nat × ByteArray)} (h : PiI p n k m q i has) : freeL p.pages = n - 2 - m - q := by
  have h0 : ((cP i).1 == 0) = false := by rw [beq_eq_false_iff_ne]; exact cP_ne i
  rw [h.pages, freeL_two, List.filter_append, List.filter_append, List.filter_replicate, List.filter_replicate, List.filter_replicate]
  simp [cP_ne i]
theorem PiI.last {p : Pg} {n k m q i : Nat} {has : List (Nat × ByteArray)} (h : PiI p n k m q i has) (hi : i ≤ 1000) :
    ∃ p2 p3, commitP p [121] = (0, p2) ∧ p2.ops = 1 ∧ unpinP p2 2 = (0, p3) ∧ p3.ops = 2 ∧ freeL p3.pages = n - 2 - m - q + m ∧ unpinP p3 2 = (7, p3) := by
  have hroom := h.room
  have hlen := h.len
  obtain ⟨p2, c1, c2, c3, c4, c5, c6, c7⟩ := com_core (has := has) [121] (by simp) hi h.hp h.gen h.pins h.ops h.pages (rest_turn i q _) h.ok (by omega)
  refine ⟨p2, settleP { p2 with pins := [], ops := 2 }, c1, c5, ?_, rfl, ?_, rfl⟩
  · unfold unpinP; rw [c4, c5]; rfl
  · unfold settleP
    rw [c6]
    simp only [List.map_cons, List.map_append, List.map_replicate]
    have e0 : setl [] (0, 0) = (0, 0) := by decide
    have e1 : setl [] (1, 0) = (1, 0) := by decide
    have e4 : setl [] (4, 3) = (0, 0) := by decide
    rw [e0, e1, e4, freeL_two, List.filter_append, List.filter_append, List.filter_replicate, List.filter_replicate, List.filter_replicate]
    simp; omega
end

section
open Go.RowKit Go.MapKept Go.Maps

theorem plainElem_bool_inv {P : Program} {e : TypeId} (he : P.underlying e = some .bool) {v : Value} {z : DataW Unit × List MemPlace} (h : plainElem P e v = some z) : ∃ x, v = .bool x ∧ z = (.lit (.bool x), []) := by
  unfold plainElem at h
  rw [he] at h
  cases v <;> simp at h
  exact ⟨_, rfl, h.symm⟩
/-- A map of ints to bools in memory: those that are true. -/
def MetW (w : World) (mb n : Nat) (met : List Int) : Prop :=
  ∃ D : DataW Unit, w.ownsMap Try.prog 3 (plainElem Try.prog 4) mb n D ∧ Maps.IsMap D ∧
    ∀ g : Int, (Lit.int .i64 g).wf = true → D.atKey (.int .i64 g) (.lit (.bool false)) = .lit (.bool (decide (g ∈ met)))
theorem MetW.made (w : World) : MetW (w.alloc (.map #[] 0)) w.heap.size 0 [] :=
  ⟨.map [], World.ownsMap_made w _ _ _, ⟨_, rfl⟩, fun _ _ => rfl⟩
theorem MetW.lt {w : World} {mb n : Nat} {met : List Int} (h : MetW w mb n met) : mb < w.heap.size := by obtain ⟨D, h, _⟩ := h; exact h.lt
theorem MetW.frame {w w' : World} {mb n : Nat} {met : List Int} (h : MetW w mb n met) (hb : w'.heap[mb]? = w.heap[mb]?) : MetW w' mb n met := by
  obtain ⟨D, ⟨es, clock, h1, r⟩, h⟩ := h
  exact ⟨D, ⟨es, clock, hb.trans h1, r⟩, h⟩
theorem Try.zero4 (w : World) : (zeroValue 4).run Try.prog w = .ok (.bool false) w := by kernel_rfl
theorem MetW.ask {w : World} {mb n : Nat} {met : List Int} (hp : MetW w mb n met) (g : Int) (hw : (Lit.int .i64 g).wf = true) : (Instr.lookup 157 (.map (some mb)) (.int .i64 g) false).run Try.prog w = .ok (.bool (decide (g ∈ met))) w := by
  obtain ⟨D, h1, _, h3⟩ := hp
  obtain ⟨v, ps, hrun, hv⟩ := h1.lookup (int_keyed Try.underlying3) Try.underlying157 (Try.zero4 w) (plainElem_bool Try.underlying4 false) (keyOf_int_mk Try.underlying3 hw)
  obtain ⟨x, rfl, hx⟩ := plainElem_bool_inv Try.underlying4 hv
  rw [h3 g hw] at hx
  simp only [Prod.mk.injEq, DataW.lit.injEq, Lit.bool.injEq] at hx
  rw [hrun, hx.1]
theorem MetW.put {w : World} {mb n : Nat} {met : List Int} (hp : MetW w mb n met) (hn : n < maxLen) (g : Int) (hw : (Lit.int .i64 g).wf = true) :
    ∃ w', (Instr.mapUpdate 157 (.map (some mb)) (.int .i64 g) (.bool true)).run Try.prog w = .ok () w' ∧ MetW w' mb (n + 1) (met ++ [g]) ∧ Ch (fun k => k = mb) w w' := by
  obtain ⟨D, h1, h2, h3⟩ := hp
  have K := int_keyed (P := Try.prog) Try.underlying3
  have hkey := keyOf_int_mk (P := Try.prog) Try.underlying3 hw
  obtain ⟨w', r1, r2, r3⟩ := h1.update K Try.underlying157 hn hkey (plainElem_bool Try.underlying4 true)
  refine ⟨w', r1, ⟨_, r2, ?_, fun k hk => ?_⟩, (Ch.refl _ w).grown r3 (fun q hq _ => by cases hq; rfl)⟩
  · obtain ⟨es, rfl⟩ := h2; exact ⟨_, rfl⟩
  · by_cases hkg : k = g
    · subst hkg
      rw [atKey_put_same h2 (K.key hkey)]
      simp
    · have hne : (Lit.int .i64 k) ≠ Lit.int .i64 g := by intro e; cases e; exact hkg rfl
      rw [atKey_put_other hne, h3 k hk]
      simp [hkg]

/-- Which error Use answers. -/
def useS (p : Pg) : List Int → List Int → Nat
  | _, [] => 0
  | met, x :: l => if hasP p x = false then 3 else if (p.pages.getD x.toNat (0, 0)).1 ≠ 0 then 8 else if x ∈ met then 8 else useS p (met ++ [x]) l
def use1 (pg : List (Nat × Nat)) (x : Int) : List (Nat × Nat) := pg.set x.toNat (1, (pg.getD x.toNat (0, 0)).2)
def useP (p : Pg) (l : List Int) : Nat × Pg :=
  if p.dead = true then (9, p) else if useS p [] l ≠ 0 then (useS p [] l, p) else (0, { p with pages := l.foldl use1 p.pages })
theorem useS_has {p : Pg} : ∀ (l met : List Int), useS p met l = 0 → ∀ x ∈ l, hasP p x = true := by
  intro l
  induction l with
  | nil => intro met h x hx; cases hx
  | cons y l ih =>
    intro met h x hx
    unfold useS at h
    by_cases h1 : hasP p y = false
    · rw [if_pos h1] at h; cases h
    · rw [if_neg h1] at h
      by_cases h2 : (p.pages.getD y.toNat (0, 0)).1 ≠ 0
      · rw [if_pos h2] at h; cases h
      · rw [if_neg h2] at h
        by_cases h3 : y ∈ met
        · rw [if_pos h3] at h; cases h
        · rw [if_neg h3] at h
          rcases List.mem_cons.1 hx with rfl | hx
          · simpa using h1
          · exact ih _ h x hx
theorem useS_step {p : Pg} {l : List Int} {j : Nat} {x : Int} (hx : l[j]? = some x) : useS p (l.take j) (l.drop j) = if hasP p x = false then 3 else if (p.pages.getD x.toNat (0, 0)).1 ≠ 0 then 8 else if x ∈ l.take j then 8 else useS p (l.take (j + 1)) (l.drop (j + 1)) := by
  obtain ⟨hj, e⟩ := List.getElem?_eq_some_iff.1 hx
  rw [List.drop_eq_getElem_cons hj, List.take_add_one, hx, ← e]
  rfl
theorem use1_len (pg : List (Nat × Nat)) (x : Int) : (use1 pg x).length = pg.length := by unfold use1; simp
theorem useL_len (l : List Int) : ∀ pg : List (Nat × Nat), (l.foldl use1 pg).length = pg.length := by
  induction l with
  | nil => intro pg; rfl
  | cons x l ih => intro pg; rw [List.foldl_cons, ih, use1_len]
theorem useL_step {l : List Int} {j : Nat} {x : Int} (hx : l[j]? = some x) (pg : List (Nat × Nat)) : (l.take (j + 1)).foldl use1 pg = use1 ((l.take j).foldl use1 pg) x := by
  rw [List.take_add_one, hx, Option.toList_some, List.foldl_append]; rfl
end

section
open Go.RowKit

/-- Pages but one. -/
def wo (l : List (Nat × ByteArray)) (n : Int) : List (Nat × ByteArray) := l.filter fun x => !((x.1 : Int) == n)
theorem wo_all {l : List (Nat × ByteArray)} {n : Int} (h : ∀ x ∈ l, (x.1 : Int) ≠ n) : wo l n = l := by
  unfold wo; rw [List.filter_eq_self]; intro x hx; simp [h x hx]
theorem wo_le (l : List (Nat × ByteArray)) (n : Int) : (wo l n).length ≤ l.length := List.length_filter_le _ _
theorem wo_yes {l : List (Nat × ByteArray)} {n : Int} {j : Nat} {x : Nat × ByteArray} (hx : l[j]? = some x) (h : (x.1 : Int) ≠ n) : wo (l.take (j + 1)) n = wo (l.take j) n ++ [x] := by
  unfold wo; rw [List.take_add_one, hx, Option.toList_some, List.filter_append]; simp [h]
theorem wo_no {l : List (Nat × ByteArray)} {n : Int} {j : Nat} {x : Nat × ByteArray} (hx : l[j]? = some x) (h : (x.1 : Int) = n) : wo (l.take (j + 1)) n = wo (l.take j) n := by
  unfold wo; rw [List.take_add_one, hx, Option.toList_some, List.filter_append]; simp [h]
/-- A slice of pages, seen from elsewhere. -/
theorem HasAt.base {w : World} {b b' n : Nat} {Q Q' : Nat → Prop} {v : Value} {l : List (Nat × ByteArray)} (h : HasAt w b Q v n l) (hb : b' ≤ b) (hq : ∀ k, Q' k → k < b) : HasAt w b' Q' v n l := by
  obtain ⟨h1, h2, h3⟩ := h
  refine ⟨⟨h1.1, ?_⟩, h2, fun k hk hQ => ?_⟩
  · rcases h1.2 with ⟨e, h0⟩ | ⟨g, c, cur, e, hg, r⟩
    · exact .inl ⟨e, h0⟩
    · exact .inr ⟨g, c, cur, e, Nat.le_trans hb hg, r⟩
  · have := (h1.lt k hk).1
    have := hq k hQ
    omega

set_option maxRecDepth 20000 in
set_option maxHeartbeats 2000000 in
theorem without_any {base : Nat} {Q : Nat → Prop} (a : Option Addr) (cap m : Nat) (l : List (Nat × ByteArray)) (n : Int) (w : World) (h : HasAt w base Q (.slice a m cap) m l) (hl : m ≤ 60) :
    Calls Try.prog 66 #[.slice a m cap, .int .i64 n] w fun e w' => ∃ a' cap', e = .returned (.slice a' (wo l n).length cap') ∧ HasAt w' w.heap.size (fun _ => False) (.slice a' (wo l n).length cap') (wo l n).length (wo l n) ∧ Ch (fun _ => False) w w' := by
  have HH := hid h
  have hlm := h.2.1
  have HLm := hid hlm
  clear h hlm
  go_enter Try.func66, Try.ntmps66
  go_wp2_with fail
  go_loopw [5, 10] (fun hv i wr => ∃ j k a c, i = .int .i64 ((j : Nat) : Int) ∧ j ≤ m ∧ hv = .slice a k c ∧ k ≤ j ∧ Hid (HasAt wr w.heap.size (fun _ => False) (.slice a k c) k (wo (l.take j) n) ∧ Ch (fun _ => False) w wr)) (fun _ i _ => 100 - (intOf i).toNat)
  case atStart => exact ⟨0, 0, none, 0, rfl, Nat.zero_le _, rfl, Nat.le_refl _, hid ⟨HasAt.start _ _ _, Ch.refl _ _⟩⟩
  case round =>
    obtain ⟨j, k, ra, rc, rfl, hj, rfl, hk, HI⟩ := hrel
    obtain ⟨hr, hc⟩ := HI.out
    have HR := hid hr
    have HC := hid hc
    clear hr hc
    by_cases hlt : j < m
    · obtain ⟨x, HX⟩ : ∃ x, Hid (l[j]? = some x) := ⟨l[j]'(by rw [HLm.out]; exact hlt), hid (List.getElem?_eq_getElem _)⟩
      obtain ⟨b, rfl, hc0, hc1, hblt⟩ := (HH.out.ch HC.out (fun _ h _ => h.elim) (Fresh.refl _ _)).get HX.out
      obtain ⟨xn, xs⟩ := x
      dsimp only at hc0 hc1
      have hw1 := (Ch.refl (fun _ => False) wr).alloc (.cells #[.int .i64 (xn : Int), .string xs] 96)
      have hsz : (wr.alloc (.cells #[.int .i64 (xn : Int), .string xs] 96)).heap.size = wr.heap.size + 1 := World.size_alloc _ _
      by_cases hne : (xn : Int) = n
      · have hb : ((xn : Int) != n) = false := by rw [hne]; simp
        have hr' := HR.out.ch hw1 (fun _ h _ => h.elim) (Fresh.refl _ (fun _ => False))
        rw [← wo_no HX.out hne] at hr'
        have HR1 := hid hr'
        have HC1 := hid (HC.out.trans hw1)
        clear hw1 hsz hr' hne
        go_wp2_with fail
        go_roundw
        case rel => exact ⟨j + 1, k, ra, rc, by go_num, by omega, rfl, by omega, hid ⟨HR1.out, HC1.out⟩⟩
        case measure => simp [intOf]; omega
      · have hb : ((xn : Int) != n) = true := by simp [hne]
        have hg := heap_new2 (wr.alloc (.cells #[.int .i64 (xn : Int), .string xs] 96)) (.int .i64 (xn : Int)) (.string xs) 96
        rw [hsz] at hg
        have hw2 := hw1.alloc (.cells #[.int .i64 (xn : Int), .string xs] 96)
        have hr2 := HR.out.ch hw2 (fun _ h _ => h.elim) (Fresh.refl _ (fun _ => False))
        obtain ⟨v', w8, hrun, hr8, hc8⟩ := hr2.snoc (fun k hk => hk.elim) (by omega) (by have := HC.out.size; have := hw2.size; omega) (xn, xs) (wr.heap.size + 1) hg.1 hg.2 91 1
        have hnb : ∀ q, (Value.slice ra k rc).ownBlock = some q → ¬ q < w.heap.size := fun q hq => by have := (hr2.1.lt q hq).1; omega
        have hc8' := (HC.out.trans hw2).then hc8 (fun i hi hk => hnb i hk hi)
        rw [← wo_yes HX.out hne] at hr8
        obtain ⟨g, gcap, rfl⟩ := hr8.form
        have HRun := hid hrun
        have HR8 := hid hr8
        have HC8 := hid hc8'
        clear hw1 hsz hg hw2 hr2 hrun hr8 hc8 hc8' hnb hne
        go_wp2_with (at_builtin; refine wpList_append_run rfl (.tmp 18) (.tmp 20) 91 91 rfl _ _ HRun.out ?_)
        go_roundw
        case rel => exact ⟨j + 1, k + 1, g, gcap, by go_num, by omega, by go_num, by omega, hid ⟨HR8.out, HC8.out⟩⟩
        case measure => simp [intOf]; omega
    · obtain rfl : j = m := by omega
      have ht : l.take j = l := by rw [← HLm.out]; exact List.take_length
      have hr := HR.out
      rw [ht] at hr
      have hkl := hr.2.1
      have HR1 := hid hr
      have HKl := hid hkl
      clear ht hr hkl
      go_wp2_with fail
      go_ret
      rw [HKl.out]
      exact ⟨ra, rc, rfl, HR1.out, HC.out⟩
end

section
open Go.RowKit Go.MapKept Go.Maps

set_option maxRecDepth 20000 in
set_option maxHeartbeats 4000000 in
theorem use_any {pp dp gb mb : Nat} {p : Pg} {M F O : Nat → Prop} (a : Option Addr) (cap : Nat) (l : List Int) (w : World) (h : PgX w pp dp gb mb p M F O) (hi : Ints w (.slice a l.length cap) l) (hl : l.length ≤ 1000)
    (hwf : ∀ x ∈ l, (Lit.int .i64 x).wf = true) (hO : ∀ k, (Value.slice a l.length cap).ownBlock = some k → ¬ O k) :
    Calls Try.prog 69 #[.pointer (some ⟨pp, 0, none⟩), .slice a l.length cap] w fun e w' => e = .returned (.int .i64 ((useP p l).1 : Nat)) ∧ PgX w' pp dp gb mb (useP p l).2 M F O ∧ Ch O w w' := by
  have HX := hid h
  have HI := hid hi
  have HWf := hid hwf
  have HO := hid hO
  have hR := ready_any w ⟨gb, mb, h⟩
  have n2 := h.1.n2
  clear h hi hwf hO
  by_cases hd : p.dead = true
  · have e : useP p l = (9, p) := by unfold useP; rw [if_pos hd]
    rw [e]
    rw [hd] at hR
    have HR := hid hR
    clear hR e hd
    go_enter Try.func69, Try.ntmps69
    go_wp2_with (go_at_call 98; refine HR.out.mono ?_; rintro e w' ⟨rfl, rfl⟩)
    go_ret
    exact ⟨rfl, HX.out, Ch.refl _ _⟩
  have hdf : p.dead = false := by simpa using hd
  rw [hdf, show ((readyE false : Nat) : Int) = 0 from rfl] at hR
  have HR := hid hR
  have HD := hid hd
  have HBad : Hid (useS p [] l ≠ 0 → useP p l = (useS p [] l, p)) := hid (fun hn => by unfold useP; rw [if_neg HD.out, if_pos hn])
  have HGood : Hid (useS p [] l = 0 → useP p l = (0, { p with pages := l.foldl use1 p.pages })) := hid (fun hn => by unfold useP; rw [if_neg HD.out, if_neg (by rw [hn]; simp)])
  clear hR hd hdf
  obtain ⟨nn, HN⟩ : ∃ nn, Hid (p.pages.length = nn) := ⟨_, hid rfl⟩
  rw [HN.out] at n2
  have hmm := run_makeMap (P := Try.prog) 157 w
  go_enter Try.func69, Try.ntmps69
  go_wp2_with (go_at_call 98; refine HR.out.mono ?_; rintro e w' ⟨rfl, rfl⟩)
  clear hmm
  have HM0 := hid (MetW.made w)
  have HC0 := hid ((Ch.refl (fun _ => False) w).alloc (.map #[] 0))
  go_loopw [19] (fun i wr => ∃ j : Nat, i = .int .i64 (j : Int) ∧ j ≤ l.length ∧ Hid (useS p (l.take j) (l.drop j) = useS p [] l ∧ MetW wr w.heap.size j (l.take j) ∧ Ch (fun _ => False) w wr)) (fun i _ => 2000 - (intOf i).toNat)
  case atStart => exact ⟨0, rfl, Nat.zero_le _, hid ⟨rfl, HM0.out, HC0.out⟩⟩
  case round =>
    clear HM0 HC0
    obtain ⟨j, rfl, hj, HI2⟩ := hrel
    obtain ⟨hs, hm, hc⟩ := HI2.out
    have HS := hid hs
    have HM := hid hm
    have HC := hid hc
    have hX := HX.out.ch hc (fun _ _ h => h) (fun _ _ h => h)
    have c3 := cell_blk hX.1.hp 3
    simp at c3
    rw [HN.out] at c3
    have HX2 := hid hX
    clear HI2 hs hm hc hX
    by_cases hlt : j < l.length
    · obtain ⟨x, HXx⟩ : ∃ x, Hid (l[j]? = some x) := ⟨l[j]'hlt, hid (List.getElem?_eq_getElem _)⟩
      obtain ⟨b, off, rfl, hcell, hblt⟩ := (HI.out.ch HC.out (fun _ _ h => h)).get HXx.out
      have hH := has_any x wr ⟨gb, mb, HX2.out⟩
      have hst := useS_step (p := p) HXx.out
      rw [HS.out] at hst
      cases hh : hasP p x with
      | false =>
        rw [hh] at hH
        rw [hh, if_pos rfl] at hst
        have HE := hid (HBad.out (by rw [hst]; simp))
        have HSt := hid hst
        have HH := hid hH
        clear hH hh hst
        go_wp2_with (go_at_call 101; refine HH.out.mono ?_; rintro e w' ⟨rfl, rfl⟩)
        go_ret
        rw [HE.out, HSt.out]
        exact ⟨rfl, HX2.out, HC.out.mono (fun _ _ h => h.elim)⟩
      | true =>
        rw [hh] at hH
        rw [hh, if_neg (by simp)] at hst
        have HH := hid hH
        have hb : 2 ≤ x ∧ x < p.pages.length := by simpa [hasP] using hh
        obtain ⟨m, rfl⟩ := Int.eq_ofNat_of_zero_le (show 0 ≤ x by omega)
        obtain ⟨y, HY⟩ : ∃ y, Hid (p.pages[m]? = some y) := ⟨p.pages[m]'(by omega), hid (List.getElem?_eq_getElem _)⟩
        obtain ⟨q1, q2, q3, q4, q5⟩ := HX2.out.cells HY.out
        have hm1 : (m : Int) < (nn : Int) := by have := HN.out; omega
        have hm0 : (0 : Int) ≤ (m : Int) := Int.natCast_nonneg _
        rw [Int.toNat_natCast, List.getD, HY.out] at hst
        simp only [Option.getD_some] at hst
        have hmask := HM.out.ask (m : Int) (HWf.out _ (List.mem_of_getElem? HXx.out))
        clear hH hh hb
        by_cases h0 : y.1 = 0
        · rw [if_neg (by simp [h0])] at hst
          rw [h0] at q1
          by_cases hmem : (m : Int) ∈ l.take j
          · rw [if_pos hmem] at hst
            rw [decide_eq_true hmem] at hmask
            have HE := hid (HBad.out (by rw [hst]; simp))
            have HSt := hid hst
            clear hst h0 hmem
            go_wp2_with (go_at_call 101; refine HH.out.mono ?_; rintro e w' ⟨rfl, rfl⟩)
            go_ret
            rw [HE.out, HSt.out]
            exact ⟨rfl, HX2.out, HC.out.mono (fun _ _ h => h.elim)⟩
          · rw [if_neg hmem] at hst
            rw [decide_eq_false hmem] at hmask
            obtain ⟨w2, hput, hm2, hc2⟩ := HM.out.put (by unfold maxLen; omega) (m : Int) (HWf.out _ (List.mem_of_getElem? HXx.out))
            have e2 : l.take j ++ [(m : Int)] = l.take (j + 1) := by rw [List.take_add_one, HXx.out]; rfl
            rw [e2] at hm2
            have HM2 := hid hm2
            have HS2 := hid hst.symm
            have HC2 := hid (HC.out.then hc2 (fun i hi h => by omega))
            clear hst h0 hmem hm2 hc2 e2
            go_wp2_with (go_at_call 101; refine HH.out.mono ?_; rintro e w' ⟨rfl, rfl⟩)
            go_roundw
            case rel => exact ⟨j + 1, by go_num, by omega, hid ⟨HS2.out, HM2.out, HC2.out⟩⟩
            case measure => simp [intOf]; omega
        · rw [if_pos h0] at hst
          have h0b : ((y.1 : Int) != 0) = true := by rw [bne_iff_ne]; omega
          have HE := hid (HBad.out (by rw [hst]; simp))
          have HSt := hid hst
          clear hst h0 hmask
          go_wp2_with (go_at_call 101; refine HH.out.mono ?_; rintro e w' ⟨rfl, rfl⟩)
          go_ret
          rw [HE.out, HSt.out]
          exact ⟨rfl, HX2.out, HC.out.mono (fun _ _ h => h.elim)⟩
    · obtain rfl : j = l.length := by omega
      have hs0 := HS.out
      rw [List.drop_length] at hs0
      have h0 : useS p [] l = 0 := hs0.symm
      have HE := hid (HGood.out h0)
      have HHas := hid (useS_has _ _ h0)
      have HC1 := hid (HC.out.mono (T := O) (fun _ _ h => h.elim))
      clear hs0 h0 c3
      go_wp2_with fail
      go_loopw [46] (fun i wr => ∃ j : Nat, i = .int .i64 (j : Int) ∧ j ≤ l.length ∧ Hid (PgX wr pp dp gb mb { p with pages := (l.take j).foldl use1 p.pages } M F O ∧ Ch O w wr)) (fun i _ => 2000 - (intOf i).toNat)
      case atStart => exact ⟨0, rfl, Nat.zero_le _, hid ⟨HX2.out, HC1.out⟩⟩
      case round =>
        clear HX2 HC1 HM HS HC
        obtain ⟨j, rfl, hj, HI2⟩ := hrel
        obtain ⟨hX, hc⟩ := HI2.out
        have hln : ((l.take j).foldl use1 p.pages).length = nn := by rw [useL_len, HN.out]
        have c3 := cell_blk hX.1.hp 3
        simp at c3
        rw [hln] at c3
        have HX2 := hid hX
        have HC := hid hc
        have HLn := hid hln
        clear HI2 hc hX hln
        by_cases hlt : j < l.length
        · obtain ⟨x, HXx⟩ : ∃ x, Hid (l[j]? = some x) := ⟨l[j]'hlt, hid (List.getElem?_eq_getElem _)⟩
          have hh := HHas.out x (List.mem_of_getElem? HXx.out)
          have hb : 2 ≤ x ∧ x < p.pages.length := by simpa [hasP] using hh
          obtain ⟨m, rfl⟩ := Int.eq_ofNat_of_zero_le (show 0 ≤ x by omega)
          have hm1 : (m : Int) < (nn : Int) := by have := HN.out; omega
          have hm0 : (0 : Int) ≤ (m : Int) := Int.natCast_nonneg _
          obtain ⟨y, HY⟩ : ∃ y, Hid (((l.take j).foldl use1 p.pages)[m]? = some y) := ⟨((l.take j).foldl use1 p.pages)[m]'(by rw [HLn.out]; omega), hid (List.getElem?_eq_getElem _)⟩
          obtain ⟨q1, q2, q3, q4, q5⟩ := HX2.out.cells HY.out
          have e1 : (l.take (j + 1)).foldl use1 p.pages = ((l.take j).foldl use1 p.pages).set m (1, y.2) := by
            rw [useL_step HXx.out]
            show (List.foldl use1 p.pages (List.take j l)).set (m : Int).toNat (1, ((List.foldl use1 p.pages (List.take j l)).getD (m : Int).toNat (0, 0)).2) = _
            rw [Int.toNat_natCast, List.getD, HY.out]
            rfl
          have g := HX2.out.page1 m 1 y HY.out
          obtain ⟨b, off, ha, hcell, hblt⟩ := (HI.out.get HXx.out)
          subst ha
          have hcell2 := cell_ch2 hcell HC.out (HO.out b rfl)
          have hblt2 : b < wr.heap.size := Nat.lt_of_lt_of_le hblt HC.out.size
          have G1 := hid g.1
          have G2 := hid (HC.out.trans g.2)
          have E1 := hid e1
          clear g e1 hh hb hcell hblt
          go_wp2_with fail
          go_roundw
          case rel => exact ⟨j + 1, by go_num, by omega, hid ⟨by rw [E1.out]; exact G1.out, G2.out⟩⟩
          case measure => simp [intOf]; omega
        · obtain rfl : j = l.length := by omega
          have hX := HX2.out
          rw [List.take_length] at hX
          have HX3 := hid hX
          clear hX c3
          go_wp2_with fail
          go_ret
          rw [HE.out]
          exact ⟨rfl, HX3.out, HC.out⟩
end

section
open Go.RowKit

/-- These pages lie in the sectors c, each once. -/
def POk (c : Nat → List UInt8) (l : List (Nat × ByteArray)) : Prop :=
  (l.map Prod.fst).Nodup ∧ ∀ y ∈ l, 2 ≤ y.1 ∧ y.1 < 30 ∧ y.2.size ≤ 492 ∧ ∃ kind gen, kind ≤ 255 ∧ gen ≤ 281474976710655 ∧ c y.1 = sealB kind gen y.2.data.toList
theorem POk.turn {c c' : Nat → List UInt8} {l : List (Nat × ByteArray)} (h : POk c l) (hc : ∀ y ∈ l, c' y.1 = c y.1) : POk c' l := by
  refine ⟨h.1, fun y hy => ?_⟩
  obtain ⟨h1, h2, h3, kind, gen, h4, h5, h6⟩ := h.2 y hy
  exact ⟨h1, h2, h3, kind, gen, h4, h5, by rw [hc y hy]; exact h6⟩
theorem POk.wo {c : Nat → List UInt8} {l : List (Nat × ByteArray)} (h : POk c l) (i : Int) : POk c (wo l i) :=
  ⟨List.Nodup.sublist (List.Sublist.map _ List.filter_sublist) h.1, fun y hy => h.2 y (List.mem_filter.1 hy).1⟩
theorem cont_out {d : Dk} {i : Nat} (h : ∀ x ∈ d.wait, x.1 ≠ i) : cont d i = d.L.getD i [] := by
  unfold cont
  generalize d.L.getD i [] = s
  generalize hw : d.wait = l at h
  clear hw
  induction l with
  | nil => rfl
  | cons x l ih =>
    unfold readW
    rw [List.foldl_cons, if_neg (h x (by simp))]
    exact ih (fun y hy => h y (List.mem_cons_of_mem _ hy))
theorem keeps_out (wait : List (Nat × List UInt8)) (i : Nat) (h : ∀ x ∈ wait, x.1 ≠ i) (kept : List (Int × Int)) : ∀ L : List (List UInt8), (kept.foldl (keepD wait) L).getD i [] = L.getD i [] := by
  induction kept with
  | nil => intro L; rfl
  | cons k kept ih =>
    intro L
    rw [List.foldl_cons, ih]
    unfold keepD
    split
    · split
      · rename_i x hx
        show ((L.set x.1 _)[i]?).getD [] = (L[i]?).getD []
        rw [List.getElem?_set_ne (h x (List.mem_of_getElem? hx))]
      · rfl
    · rfl
theorem crash_out {d : Dk} {i : Nat} (h : ∀ x ∈ d.wait, x.1 ≠ i) (kept : List (Int × Int)) : cont (crashD d kept) i = d.L.getD i [] := keeps_out _ _ h kept _

theorem take_drop_max (b o : List UInt8) (m K : Nat) (hb : b.length = 512) (hK : K ≤ 512) :
    b.take m ++ (b.take K ++ o.drop K).drop m = b.take (max m K) ++ o.drop (max m K) := by
  have hl : (b.take K).length = K := by rw [List.length_take]; omega
  by_cases h : m ≤ K
  · rw [Nat.max_eq_right h, List.drop_append_of_le_length (by omega), ← List.append_assoc]
    congr 1
    have e := List.take_append_drop m (b.take K)
    rw [List.take_take, Nat.min_eq_left h] at e
    exact e
  · rw [Nat.max_eq_left (by omega), List.drop_append, hl, List.drop_eq_nil_of_le (by omega), List.nil_append, List.drop_drop]
    congr 2
    omega
/-- One write waits: what a crash leaves of it. -/
theorem keeps_one (a : Nat) (b o : List UInt8) (hb : b.length = 512) (kept : List (Int × Int)) :
    ∀ (L : List (List UInt8)) (K : Nat), a < L.length → K ≤ 512 → L.getD a [] = b.take K ++ o.drop K → ∃ K', K' ≤ 512 ∧ (kept.foldl (keepD [(a, b)]) L).getD a [] = b.take K' ++ o.drop K' := by
  induction kept with
  | nil => intro L K _ hK h; exact ⟨K, hK, h⟩
  | cons k kept ih =>
    intro L K ha hK h
    rw [List.foldl_cons]
    by_cases hk : 0 ≤ k.1 ∧ k.1 < 1
    · have e : keepD [(a, b)] L k = L.set a (b.take (min k.2.toNat 512) ++ (L.getD a []).drop (min k.2.toNat 512)) := by
        unfold keepD
        rw [if_pos (by simpa using hk), show k.1.toNat = 0 by omega]
        rfl
      rw [e]
      refine ih _ (max (min k.2.toNat 512) K) (by simpa using ha) (by omega) ?_
      rw [List.getD, List.getElem?_set_self ha, Option.getD_some, h]
      exact take_drop_max b o _ K hb hK
    · have e : keepD [(a, b)] L k = L := by
        unfold keepD; rw [if_neg (by simpa using hk)]
      rw [e]
      exact ih L K ha hK h

/-- Pages that are committed (has), and those that will be (now). -/
structure WhI (p : Pg) (k : Nat) (has now : List (Nat × ByteArray)) : Prop where
  pl : Pl p.d 30 k
  sane : Sane p.d
  len : p.pages.length = 30
  gen : p.gen = 2
  out : ∀ x ∈ p.d.wait, 2 ≤ x.1 ∧ ∀ y ∈ has, x.1 ≠ y.1
  r0 : p.d.L.getD 0 [] = rootB 2 [111, 108, 100]
  r1 : p.d.L.getD 1 [] = rootB 1 []
  hok : POk (fun i => p.d.L.getD i []) has
  hst : ∀ y ∈ has, ∃ x, p.pages[y.1]? = some x ∧ (x.1 = 1 ∨ x.1 = 3)
  nok : POk (cont p.d) now
  nst : ∀ y ∈ now, ∃ x, p.pages[y.1]? = some x ∧ (x.1 = 1 ∨ x.1 = 2)
theorem WhI.up {p : Pg} {k k' : Nat} {has now : List (Nat × ByteArray)} (h : WhI p k has now) (hk : k ≤ k') : WhI p k' has now :=
  ⟨⟨h.pl.len, Nat.le_trans h.pl.steps hk, Nat.le_trans h.pl.wait hk⟩, h.sane, h.len, h.gen, h.out, h.r0, h.r1, h.hok, h.hst, h.nok, h.nst⟩
theorem mem_wo {l : List (Nat × ByteArray)} {i : Int} {y : Nat × ByteArray} (h : y ∈ wo l i) : y ∈ l ∧ (y.1 : Int) ≠ i := by
  have := List.mem_filter.1 h
  exact ⟨this.1, by simpa using this.2⟩
theorem WhI.drop {p : Pg} {k : Nat} {has now : List (Nat × ByteArray)} (h : WhI p k has now) (i : Int) : ∃ e p', dropP p i = (e, p') ∧ WhI p' k has (if e = 0 then wo now i else now) := by
  unfold dropP
  by_cases hd : p.dead = true
  · rw [if_pos hd]; exact ⟨_, _, rfl, h⟩
  rw [if_neg hd]
  by_cases hh : hasP p i = true
  · rw [if_pos hh]
    have hb : 2 ≤ i ∧ i < p.pages.length := by simpa [hasP] using hh
    obtain ⟨m, rfl⟩ := Int.eq_ofNat_of_zero_le (show 0 ≤ i by omega)
    rw [Int.toNat_natCast]
    have hm : m < p.pages.length := by omega
    have hx : p.pages[m]? = some (p.pages[m]) := List.getElem?_eq_getElem hm
    generalize p.pages[m] = x at hx
    rw [hx]
    simp only
    have nst' : ∀ v, ∀ y ∈ wo now (m : Int), ∃ x, (p.pages.set m v)[y.1]? = some x ∧ (x.1 = 1 ∨ x.1 = 2) := fun v y hy => by
      obtain ⟨h1, h2⟩ := mem_wo hy
      rw [List.getElem?_set_ne (by omega)]
      exact h.nst y h1
    by_cases h2 : x.1 = 2
    · rw [if_pos h2]
      refine ⟨_, _, rfl, h.pl, h.sane, by simp [h.len], h.gen, h.out, h.r0, h.r1, h.hok, fun y hy => ?_, h.nok.wo _, nst' _⟩
      obtain ⟨z, hz, hz2⟩ := h.hst y hy
      refine ⟨z, ?_, hz2⟩
      show (p.pages.set m (0, 0))[y.1]? = _
      rw [List.getElem?_set_ne, hz]
      intro e
      rw [e, hz] at hx
      cases hx
      omega
    · rw [if_neg h2]
      by_cases h1 : x.1 = 1
      · rw [if_pos h1]
        refine ⟨_, _, rfl, h.pl, h.sane, by simp [h.len], h.gen, h.out, h.r0, h.r1, h.hok, fun y hy => ?_, h.nok.wo _, nst' _⟩
        obtain ⟨z, hz, hz2⟩ := h.hst y hy
        by_cases e : m = y.1
        · refine ⟨(3, x.2), ?_, .inr rfl⟩
          show (p.pages.set m (3, x.2))[y.1]? = _
          rw [← e, List.getElem?_set_self hm]
        · refine ⟨z, ?_, hz2⟩
          show (p.pages.set m (3, x.2))[y.1]? = _
          rw [List.getElem?_set_ne e, hz]
      · rw [if_neg h1]; exact ⟨_, _, rfl, h⟩
  · rw [if_neg hh]; exact ⟨_, _, rfl, h⟩
theorem WhI.put {p : Pg} {k : Nat} {has now : List (Nat × ByteArray)} (h : WhI p k has now) (kind : Nat) (hk : kind ≤ 255) (s : ByteArray) (hs : s.size ≤ 492) :
    ∃ a e p', putP p (kind : Int) s.data.toList = (a, e, p') ∧ WhI p' (k + 1) has (if e = 0 then now ++ [(a, s)] else now) := by
  have hsl : s.data.toList.length ≤ 492 := by rw [size_toList]; exact hs
  have hsan := h.sane
  unfold putP
  by_cases hd : p.dead = true
  · rw [if_pos hd]; exact ⟨_, _, _, rfl, h.up (by omega)⟩
  rw [if_neg hd, if_neg (by rw [sealE_ok (by omega) (by omega) (by omega) (by rw [h.gen]; omega) hsl]; simp)]
  by_cases hf : ffL p.pages = p.pages.length
  · rw [if_pos hf]; exact ⟨_, _, _, rfl, h.up (by omega)⟩
  rw [if_neg hf]
  have hle := ffL_le (l := p.pages) (by rw [h.len]; omega)
  obtain ⟨x, hx, hx0, hx2⟩ := ffL_free (l := p.pages) rfl (by rw [h.len]; omega) (by omega)
  have hlen := h.len
  generalize hj : ffL p.pages = j at *
  have e1 : sealL (kind : Int) ((p.gen : Int) + 1) s.data.toList = sealB kind (p.gen + 1) s.data.toList := by
    have := sealL_ok (kind := kind) (gen := p.gen + 1) (s := s.data.toList) hk (by rw [h.gen]; omega) hsl
    rw [← this]; congr 1
  rw [e1]
  have hfree : ∀ y : Nat × ByteArray, (∃ z, p.pages[y.1]? = some z ∧ z.1 ≠ 0) → j ≠ y.1 := by
    rintro y ⟨z, hz, hz0⟩ e
    rw [← e, hx] at hz
    cases hz
    exact hz0 hx0
  have hfh : ∀ y ∈ has, j ≠ y.1 := fun y hy => hfree y (by obtain ⟨z, hz, hz2⟩ := h.hst y hy; exact ⟨z, hz, by omega⟩)
  have hfn : ∀ y ∈ now, j ≠ y.1 := fun y hy => hfree y (by obtain ⟨z, hz, hz2⟩ := h.nst y hy; exact ⟨z, hz, by omega⟩)
  by_cases hg : p.d.gone = true ∨ p.d.fuse = 0
  · have e2 : writeD p.d (j : Int) (sealB kind (p.gen + 1) s.data.toList) = (9, { p.d with gone := true }) := by
      rw [writeD, if_neg (by rw [sealB_length]; simp), if_neg (by rw [h.pl.len]; omega), stepD_no hg, if_pos rfl]
    rw [e2]
    exact ⟨_, _, _, rfl, ⟨h.pl.len, Nat.le_succ_of_le h.pl.steps, Nat.le_succ_of_le h.pl.wait⟩, ⟨hsan.n1, hsan.n2, hsan.wait, hsan.secs⟩, h.len, h.gen, h.out, h.r0, h.r1, h.hok, h.hst, h.nok, h.nst⟩
  · have e2 : writeD p.d (j : Int) (sealB kind (p.gen + 1) s.data.toList) = (0, { stepY p.d with wait := p.d.wait ++ [(j, sealB kind (p.gen + 1) s.data.toList)] }) := by
      rw [writeD, if_neg (by rw [sealB_length]; simp), if_neg (by rw [h.pl.len]; omega), stepD_yes hg, if_neg (by simp)]; rfl
    have hpl := h.pl.write (j : Int) (sealB kind (p.gen + 1) s.data.toList)
    rw [e2] at hpl ⊢
    have hc : ∀ i, cont { stepY p.d with wait := p.d.wait ++ [(j, sealB kind (p.gen + 1) s.data.toList)] } i = if j = i then sealB kind (p.gen + 1) s.data.toList else cont p.d i := fun i => by
      show readW (p.d.wait ++ [_]) i (p.d.L.getD i []) = _
      rw [readW_snoc]; rfl
    have hset : ∀ y : Nat × ByteArray, j ≠ y.1 → (p.pages.set j (2, (p.pages.getD j (0, 0)).2))[y.1]? = p.pages[y.1]? := fun y hy => List.getElem?_set_ne hy
    refine ⟨_, _, _, rfl, hpl, ⟨hsan.n1, hsan.n2, fun z hz => ?_, hsan.secs⟩, by show (p.pages.set _ _).length = 30; rw [List.length_set]; exact hlen, h.gen, fun z hz => ?_, h.r0, h.r1, h.hok, fun y hy => ?_, ⟨?_, fun y hy => ?_⟩, fun y hy => ?_⟩
    · rcases List.mem_append.1 hz with hz | hz
      · exact hsan.wait z hz
      · simp at hz; subst hz; exact ⟨sealB_length _ _ _, by show j < p.d.L.length; rw [h.pl.len]; omega⟩
    · rcases List.mem_append.1 hz with hz | hz
      · exact h.out z hz
      · simp at hz; subst hz; exact ⟨hx2, hfh⟩
    · show ∃ z, (p.pages.set j _)[y.1]? = some z ∧ _
      rw [hset y (hfh y hy)]; exact h.hst y hy
    · show ((now ++ [(j, s)]).map Prod.fst).Nodup
      rw [List.map_append, List.nodup_append]
      refine ⟨h.nok.1, by simp, fun a ha b hb => ?_⟩
      simp at hb
      obtain ⟨y, hy, rfl⟩ := List.mem_map.1 ha
      rw [hb]
      exact fun e => hfn y hy e.symm
    · rcases List.mem_append.1 hy with hy | hy
      · obtain ⟨h1, h2, h3, kd, g, h4, h5, h6⟩ := h.nok.2 y hy
        exact ⟨h1, h2, h3, kd, g, h4, h5, by rw [hc, if_neg (hfn y hy)]; exact h6⟩
      · simp at hy
        subst hy
        exact ⟨hx2, by show j < 30; omega, hs, kind, p.gen + 1, hk, by rw [h.gen]; omega, by rw [hc, if_pos rfl]⟩
    · rcases List.mem_append.1 hy with hy | hy
      · show ∃ z, (p.pages.set j _)[y.1]? = some z ∧ _
        rw [hset y (hfn y hy)]; exact h.nst y hy
      · simp at hy
        subst hy
        refine ⟨(2, (p.pages.getD j (0, 0)).2), ?_, .inr rfl⟩
        show (p.pages.set j _)[j]? = _
        rw [List.getElem?_set_self (by omega)]

/-- What a crash leaves: all as it was, or all as it is now. -/
def OldOk (o : Dk) (has : List (Nat × ByteArray)) : Prop := cont o 0 = rootB 2 [111, 108, 100] ∧ (rootL (cont o 1) = none ∨ rootL (cont o 1) = some (1, [])) ∧ POk (cont o) has
def NewOk (o : Dk) (now : List (Nat × ByteArray)) : Prop := cont o 0 = rootB 2 [111, 108, 100] ∧ rootL (cont o 1) = some (3, [110, 101, 119]) ∧ POk (cont o) now
theorem WhI.commit {p : Pg} {k : Nat} {has now : List (Nat × ByteArray)} (h : WhI p k has now) (kept : List (Int × Int)) :
    ∃ e p', commitP p [110, 101, 119] = (e, p') ∧ Pl p'.d 30 (k + 3) ∧ ((e ≠ 0 ∧ OldOk (crashD p'.d kept) has) ∨ NewOk (crashD p'.d kept) now) := by
  have hpl : Pl p.d 30 (k + 3) := ⟨h.pl.len, by have := h.pl.steps; omega, by have := h.pl.wait; omega⟩
  have hr1s := root_seal 1 [] (by omega) (by omega) (by simp)
  have hout : ∀ i, (i = 0 ∨ i = 1 ∨ ∃ y ∈ has, y.1 = i) → ∀ x ∈ p.d.wait, x.1 ≠ i := by
    rintro i hi x hx
    obtain ⟨h1, h2⟩ := h.out x hx
    rcases hi with rfl | rfl | ⟨y, hy, rfl⟩
    · omega
    · omega
    · exact h2 y hy
  -- the disk's rows are as they were
  have old0 : ∀ d' : Dk, d'.L = p.d.L → d'.wait = p.d.wait → OldOk (crashD d' kept) has := by
    intro d' hL hw
    have hc : ∀ i, (i = 0 ∨ i = 1 ∨ ∃ y ∈ has, y.1 = i) → cont (crashD d' kept) i = p.d.L.getD i [] := fun i hi => by
      rw [crash_out (by rw [hw]; exact hout i hi), hL]
    refine ⟨by rw [hc 0 (.inl rfl)]; exact h.r0, .inr (by rw [hc 1 (.inr (.inl rfl)), h.r1]; exact hr1s), h.hok.turn (fun y hy => hc y.1 (.inr (.inr ⟨y, hy, rfl⟩)))⟩
  unfold commitP
  by_cases hd : p.dead = true
  · rw [if_pos hd]
    exact ⟨9, p, rfl, hpl, .inl ⟨by simp, old0 _ rfl rfl⟩⟩
  have e1 : srootL ((p.gen : Int) + 1) [110, 101, 119] = rootB 3 [110, 101, 119] := by
    have := srootL_ok (gen := p.gen + 1) (s := [110, 101, 119]) (by omega) (by rw [h.gen]; omega) (by simp)
    rw [h.gen] at this ⊢
    rw [← this]; congr 1
  rw [if_neg hd, if_neg (by rw [srootE_ok (by omega) (by rw [h.gen]; omega) (by simp)]; simp), e1, h.gen]
  have hR := rootB_length 3 [110, 101, 119]
  have hR3 := root_seal 3 [110, 101, 119] (by omega) (by omega) (by simp)
  have ht := fun (cut g : Nat) (u : List UInt8) (hc : cut ≤ 512) hh => torn (a := 3) (b := 1) (s := [110, 101, 119]) (t := []) (cut := cut) (g := g) (u := u) (by omega) (by omega) (by simp) (by simp) (by omega) hc hh
  have hr1 := h.r1
  generalize rootB 3 [110, 101, 119] = R at *
  generalize rootB 1 [] = O at *
  by_cases hg : p.d.gone = true ∨ p.d.fuse = 0
  · have e2 : rootW p.d 3 R = (9, { p.d with gone := true }) := by
      have : flushD p.d = (9, { p.d with gone := true }) := by rw [flushD, stepD_no hg, if_pos rfl]
      unfold rootW; rw [this, if_pos (by simp)]
    rw [show (2 : Nat) + 1 = 3 from rfl, e2]
    exact ⟨9, _, rfl, ⟨hpl.len, hpl.steps, hpl.wait⟩, .inl ⟨by simp, old0 _ rfl rfl⟩⟩
  -- the pages are flushed
  obtain ⟨d1, hd1⟩ : ∃ d1 : Dk, d1 = { stepY p.d with L := applyW p.d.wait p.d.L, wait := [] } := ⟨_, rfl⟩
  have hfl : flushD p.d = (0, d1) := by rw [hd1, flushD, stepD_yes hg, if_neg (by simp)]
  have hpl1 : Pl d1 30 (k + 1) := by have := h.pl.flush; rw [hfl] at this; exact this
  have hw1 : d1.wait = [] := by rw [hd1]
  have hL1 : ∀ i, i < 30 → d1.L.getD i [] = cont p.d i := fun i hi => by
    rw [hd1]
    exact (readW_apply p.d.wait i p.d.L (by rw [h.pl.len]; exact hi)).symm
  have h10 : d1.L.getD 0 [] = rootB 2 [111, 108, 100] := by rw [hL1 0 (by omega), cont_out (hout 0 (.inl rfl)), h.r0]
  have h11 : d1.L.getD 1 [] = O := by rw [hL1 1 (by omega), cont_out (hout 1 (.inr (.inl rfl))), hr1]
  have h1h : POk (fun i => d1.L.getD i []) has := h.hok.turn (fun y hy => by
    obtain ⟨h1, h2, _⟩ := h.hok.2 y hy
    show d1.L.getD y.1 [] = _
    rw [hL1 _ h2, cont_out (hout _ (.inr (.inr ⟨y, hy, rfl⟩)))])
  have h1n : POk (fun i => d1.L.getD i []) now := h.nok.turn (fun y hy => by
    obtain ⟨h1, h2, _⟩ := h.nok.2 y hy
    exact hL1 _ h2)
  have hlen1 : d1.L.length = 30 := hpl1.len
  clear hL1 hd1
  by_cases hg1 : d1.gone = true ∨ d1.fuse = 0
  · have e2 : rootW p.d 3 R = (9, { d1 with gone := true }) := by
      have : writeD d1 ((3 % 2 : Nat) : Int) R = (9, { d1 with gone := true }) := by
        rw [writeD, if_neg (by rw [hR]; simp), if_neg (by rw [hlen1]; simp), stepD_no hg1, if_pos rfl]
      unfold rootW; rw [hfl, if_neg (by simp), this, if_pos (by simp)]
    rw [show (2 : Nat) + 1 = 3 from rfl, e2]
    have hc : ∀ i, cont (crashD { d1 with gone := true } kept) i = d1.L.getD i [] := fun i => crash_out (d := { d1 with gone := true }) (by show ∀ x ∈ d1.wait, _; rw [hw1]; simp) kept
    have ho : OldOk (crashD { d1 with gone := true } kept) has := ⟨by rw [hc]; exact h10, .inr (by rw [hc, h11]; exact hr1s), h1h.turn (fun y _ => hc _)⟩
    exact ⟨9, _, rfl, ⟨hpl1.len, by have := hpl1.steps; show d1.steps ≤ _; omega, by have := hpl1.wait; show d1.wait.length ≤ _; omega⟩, .inl ⟨by simp, ho⟩⟩
  obtain ⟨d2, hd2⟩ : ∃ d2 : Dk, d2 = { stepY d1 with wait := [(1, R)] } := ⟨_, rfl⟩
  have hwr : writeD d1 ((3 % 2 : Nat) : Int) R = (0, d2) := by
    rw [hd2, writeD, if_neg (by rw [hR]; simp), if_neg (by rw [hlen1]; simp), stepD_yes hg1, if_neg (by simp), hw1]; rfl
  have hpl2 : Pl d2 30 (k + 2) := by have := hpl1.write ((3 % 2 : Nat) : Int) R; rw [hwr] at this; exact this
  have hw2 : d2.wait = [(1, R)] := by rw [hd2]
  have hL2 : d2.L = d1.L := by rw [hd2]; rfl
  clear hd2
  by_cases hg2 : d2.gone = true ∨ d2.fuse = 0
  · have e2 : rootW p.d 3 R = (9, { d2 with gone := true }) := by
      have : flushD d2 = (9, { d2 with gone := true }) := by rw [flushD, stepD_no hg2, if_pos rfl]
      unfold rootW; rw [hfl, if_neg (by simp), hwr, if_neg (by simp), this]
    rw [show (2 : Nat) + 1 = 3 from rfl, e2]
    have hc : ∀ i, i ≠ 1 → cont (crashD { d2 with gone := true } kept) i = d1.L.getD i [] := fun i hi => by
      rw [crash_out (d := { d2 with gone := true }) (by show ∀ x ∈ d2.wait, _; rw [hw2]; simp; exact fun e => hi e.symm) kept]
      show d2.L.getD i [] = _
      rw [hL2]
    obtain ⟨K, hK, hcK⟩ : ∃ K, K ≤ 512 ∧ cont (crashD { d2 with gone := true } kept) 1 = R.take K ++ O.drop K := by
      obtain ⟨K, hK, e⟩ := keeps_one 1 R O hR kept d2.L 0 (by rw [hL2, hlen1]; omega) (by omega) (by rw [hL2, h11]; simp)
      refine ⟨K, hK, ?_⟩
      show (kept.foldl (keepD d2.wait) d2.L).getD 1 [] = _
      rw [hw2]; exact e
    have hold : ∀ c : List UInt8, cont (crashD { d2 with gone := true } kept) 1 = c → (rootL c = none ∨ rootL c = some (1, [])) → OldOk (crashD { d2 with gone := true } kept) has := fun c hc1 hc2 =>
      ⟨by rw [hc 0 (by omega)]; exact h10, by rw [hc1]; exact hc2, h1h.turn (fun y hy => hc _ (by have := (h.hok.2 y hy).1; omega))⟩
    refine ⟨9, _, rfl, ⟨hpl2.len, by have := hpl2.steps; show d2.steps ≤ _; omega, by have := hpl2.wait; show d2.wait.length ≤ _; omega⟩, ?_⟩
    show (9 ≠ 0 ∧ OldOk (crashD { d2 with gone := true } kept) has) ∨ NewOk (crashD { d2 with gone := true } kept) now
    cases hr : rootL (R.take K ++ O.drop K) with
    | none => exact .inl ⟨by simp, hold _ hcK (.inl hr)⟩
    | some z =>
      obtain ⟨g, u⟩ := z
      rcases ht K g u hK hr with ⟨_, e⟩ | ⟨_, e⟩
      · right
        exact ⟨by rw [hc 0 (by omega)]; exact h10, by rw [hcK, e]; exact hR3, h1n.turn (fun y hy => hc _ (by have := (h.nok.2 y hy).1; omega))⟩
      · left
        rw [e] at hcK
        exact ⟨by simp, hold _ hcK (.inr hr1s)⟩
  · have hfl2 : flushD d2 = (0, { stepY d2 with L := d1.L.set 1 R, wait := [] }) := by
      rw [flushD, stepD_yes hg2, if_neg (by simp), hw2, hL2]; rfl
    have hpl3 := hpl2.flush
    have e2 : rootW p.d 3 R = (0, { stepY d2 with L := d1.L.set 1 R, wait := [] }) := by
      unfold rootW; rw [hfl, if_neg (by simp), hwr, if_neg (by simp), hfl2]
    rw [show (2 : Nat) + 1 = 3 from rfl, e2]
    rw [hfl2] at hpl3
    have hc : ∀ i, cont (crashD { stepY d2 with L := d1.L.set 1 R, wait := [] } kept) i = (d1.L.set 1 R).getD i [] := fun i => crash_out (d := { stepY d2 with L := d1.L.set 1 R, wait := [] }) (by simp) kept
    have hne : ∀ i, i ≠ 1 → (d1.L.set 1 R).getD i [] = d1.L.getD i [] := fun i hi => by rw [List.getD, List.getElem?_set_ne (fun e => hi e.symm)]; rfl
    refine ⟨0, _, rfl, hpl3, .inr ?_⟩
    show NewOk (crashD { stepY d2 with L := d1.L.set 1 R, wait := [] } kept) now
    refine ⟨by rw [hc, hne 0 (by omega)]; exact h10, ?_, h1n.turn (fun y hy => by rw [hc, hne _ (by have := (h.nok.2 y hy).1; omega)])⟩
    rw [hc, List.getD, List.getElem?_set_self (by omega)]; exact hR3

/-- What is opened then. -/
theorem OldOk.open_ {o : Dk} {has : List (Nat × ByteArray)} {k : Nat} (h : OldOk o has) (ho : Hl o 30 k) : openE o = 0 ∧ openP o = { d := o, gen := 2, root := [111, 108, 100], pages := List.replicate 30 (0, 0), pins := [], dead := false, ops := 0 } := by
  obtain ⟨h0, h1, _⟩ := h
  obtain ⟨b1, b2⟩ := ho.open_ (by omega)
  have e0 : pickR 0 (cont o 0) (0, []) = (2, [111, 108, 100]) := by
    rw [h0]; unfold pickR; rw [root_seal 2 [111, 108, 100] (by omega) (by omega) (by simp)]; rfl
  have e : pickR 1 (cont o 1) (pickR 0 (cont o 0) (0, [])) = (2, [111, 108, 100]) := by
    rw [e0]; unfold pickR
    rcases h1 with h1 | h1 <;> rw [h1] <;> rfl
  rw [e] at b1 b2
  refine ⟨by rw [b1]; rfl, ?_⟩
  unfold openP newP
  rw [b2, ho.len]
theorem NewOk.open_ {o : Dk} {now : List (Nat × ByteArray)} {k : Nat} (h : NewOk o now) (ho : Hl o 30 k) : openE o = 0 ∧ openP o = { d := o, gen := 3, root := [110, 101, 119], pages := List.replicate 30 (0, 0), pins := [], dead := false, ops := 0 } := by
  obtain ⟨h0, h1, _⟩ := h
  obtain ⟨b1, b2⟩ := ho.open_ (by omega)
  have e0 : pickR 0 (cont o 0) (0, []) = (2, [111, 108, 100]) := by
    rw [h0]; unfold pickR; rw [root_seal 2 [111, 108, 100] (by omega) (by omega) (by simp)]; rfl
  have e : pickR 1 (cont o 1) (pickR 0 (cont o 0) (0, [])) = (3, [110, 101, 119]) := by
    rw [e0]; unfold pickR
    rw [h1]; rfl
  rw [e] at b1 b2
  refine ⟨by rw [b1]; rfl, ?_⟩
  unfold openP newP
  rw [b2, ho.len]

/-- The first j pages are used and read, on a pager that is opened anew. -/
structure HoI (p : Pg) (k : Nat) (l : List (Nat × ByteArray)) (j : Nat) : Prop where
  hp : HP p 30 k
  free : ∀ i x, l[i]? = some x → j ≤ i → p.pages[x.1]? = some (0, 0)
  ok : POk (cont p.d) l
theorem HoI.start {o : Dk} {k g : Nat} {r : List UInt8} {l : List (Nat × ByteArray)} (ho : Hl o 30 k) (hl : POk (cont o) l) : HoI { d := o, gen := g, root := r, pages := List.replicate 30 (0, 0), pins := [], dead := false, ops := 0 } k l 0 :=
  ⟨⟨ho, rfl, by simp, by omega⟩, fun i x hx _ => by rw [List.getElem?_replicate, if_pos (hl.2 x (List.mem_of_getElem? hx)).2.1], hl⟩
theorem HoI.step {p : Pg} {k : Nat} {l : List (Nat × ByteArray)} {j : Nat} (h : HoI p k l j) {x : Nat × ByteArray} (hx : l[j]? = some x) :
    ∃ p' kd, useP p [(x.1 : Int)] = (0, p') ∧ HoI p' k l (j + 1) ∧ readP p' (x.1 : Int) = ((kd, x.2.data.toList, 0), p') := by
  obtain ⟨h1, h2, h3, kd, g, h4, h5, h6⟩ := h.ok.2 x (List.mem_of_getElem? hx)
  have hfr := h.free j x hx (Nat.le_refl _)
  have hlen := h.hp.len
  have e0 : useS p [] [(x.1 : Int)] = 0 := by
    unfold useS
    have hh : hasP p (x.1 : Int) = true := by unfold hasP; rw [hlen]; simp; omega
    rw [if_neg (by rw [hh]; simp), Int.toNat_natCast, List.getD, hfr, if_neg (by simp), if_neg (by simp)]
    rfl
  have e1 : useP p [(x.1 : Int)] = (0, { p with pages := p.pages.set x.1 (1, 0) }) := by
    unfold useP
    rw [if_neg (by rw [h.hp.dead]; simp), if_neg (by rw [e0]; simp)]
    show (0, ({ p with pages := p.pages.set (x.1 : Int).toNat (1, (p.pages.getD (x.1 : Int).toNat (0, 0)).2) } : Pg)) = _
    rw [Int.toNat_natCast, List.getD, hfr]
    rfl
  have H : HP { p with pages := p.pages.set x.1 (1, 0) } 30 k := ⟨h.hp.hl, h.hp.dead, by simp [hlen], h.hp.n4⟩
  refine ⟨_, kd, e1, ⟨H, fun i y hy hi => ?_, h.ok⟩, H.read x.1 h1 h2 (1, 0) (List.getElem?_set_self (by omega)) (by simp) kd g _ h6 h4 h5 (by rw [size_toList]; exact h3)⟩
  show (p.pages.set x.1 (1, 0))[y.1]? = _
  rw [List.getElem?_set_ne, h.free i y hy (by omega)]
  intro e
  have hnd := h.ok.1
  have hi2 := (List.getElem?_eq_some_iff.1 hy).1
  have hj2 := (List.getElem?_eq_some_iff.1 hx).1
  have := List.pairwise_iff_getElem.1 hnd j i (by simpa using hj2) (by simpa using hi2) (by omega)
  rw [List.getElem_map, List.getElem_map, (List.getElem?_eq_some_iff.1 hx).2, (List.getElem?_eq_some_iff.1 hy).2] at this
  exact this e
end

end Go.Proofs.Ytadhibemadgcoaa
