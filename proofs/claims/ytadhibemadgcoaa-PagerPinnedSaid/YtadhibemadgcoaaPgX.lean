/- Plain laws for what is pinned; Pin and Unpin with power. Conditions: as each lemma says. -/
import Derived.Test.YtadhibemadgcoaaPgW
namespace Go.Proofs.Ytadhibemadgcoaa
open Go.RowKit

section
variable {w0 : World} {pp dp : Nat} {p : Pg} {Q : Nat → Prop}
theorem pin_z (w : World) (h : PZ w0 w pp dp p Q) (ho : p.ops ≤ 1000000) :
    Calls Try.prog 65 #[.pointer (some ⟨pp, 0, none⟩)] w fun e w' => e = .returned (.int .i64 (p.gen : Int)) ∧ ZPost w0 w pp dp (pinP p) Q w' := by
  obtain ⟨gb, mb, M, F, O, h1, h2, h3, h4, h5⟩ := id h
  refine (pin_any w h1 ho).mono ?_
  rintro e w' ⟨rfl, k1, k4⟩
  exact ⟨rfl, ZPost.mk' h h2 h3 k1 (Fresh.refl _ _) (k4.mono fun i _ hi => h3 i hi)⟩
theorem unpin_z (g : Int) (w : World) (h : PZ w0 w pp dp p Q) (ho : p.ops ≤ 1000000) (hw : (Lit.int .i64 g).wf = true) :
    Calls Try.prog 67 #[.pointer (some ⟨pp, 0, none⟩), .int .i64 g] w fun e w' => e = .returned (.int .i64 ((unpinP p g).1 : Nat)) ∧ ZPost w0 w pp dp (unpinP p g).2 Q w' := by
  obtain ⟨gb, mb, M, F, O, h1, h2, h3, h4, h5⟩ := id h
  refine (unpin_any g w h1 ho hw).mono ?_
  rintro e w' ⟨rfl, k1, k4⟩
  exact ⟨rfl, ZPost.mk' h h2 h3 k1 (Fresh.refl _ _) (k4.mono fun i _ hi => h3 i hi)⟩
end

/-- The committed pages of a pinned pager are dropped, one after the other. -/
structure PiD (p : Pg) (n k m j : Nat) (has : List (Nat × ByteArray)) : Prop where
  hp : HP p n k
  gen : p.gen = 2
  pins : p.pins = [2]
  ops : p.ops = 1
  le : j ≤ has.length
  len : has.length = m
  room : m + 2 ≤ n
  pages : p.pages = (0, 0) :: (0, 0) :: (List.replicate j (3, 0) ++ (List.replicate (m - j) (1, 0) ++ List.replicate (n - 2 - m) (0, 0)))
  ok : HasOk p.d has
theorem Begun.pin {p : Pg} {n : Nat} {has : List (Nat × ByteArray)} (h : Begun p n has) (hn : 14 ≤ n) : PiD (pinP p) n 2000 has.length 0 has :=
  ⟨⟨h.hp.hl, h.hp.dead, h.hp.len, h.hp.n4⟩, h.gen, by show p.pins ++ [p.gen] = [2]; rw [h.pins, h.gen]; rfl, by show p.ops + 1 = 1; rw [h.ops], Nat.zero_le _, rfl, by have := h.len; omega, by show p.pages = _; rw [h.pages]; rfl, h.ok⟩
theorem PiD.free {p : Pg} {n k m : Nat} {has : List (Nat × ByteArray)} (h : PiD p n k m 0 has) : freeL p.pages = n - 2 - m := by
  rw [h.pages]; exact bPages_free n m
theorem PiD.step {p : Pg} {n k m j : Nat} {has : List (Nat × ByteArray)} (h : PiD p n k m j has) {x : Nat × ByteArray} (hx : has[j]? = some x) :
    ∃ p', dropP p (x.1 : Int) = (0, p') ∧ PiD p' n k m (j + 1) has := by
  obtain ⟨h1, h2, h3⟩ := h.ok j x hx
  have hj := (List.getElem?_eq_some_iff.1 hx).1
  have hlen := h.len
  have hroom := h.room
  have e0 : m - j = (m - (j + 1)) + 1 := by omega
  have e1 : p.pages = (0, 0) :: (0, 0) :: (List.replicate j (3, 0) ++ (1, 0) :: (List.replicate (m - (j + 1)) (1, 0) ++ List.replicate (n - 2 - m) (0, 0))) := by rw [h.pages, e0, List.replicate_succ]; rfl
  have hg : p.pages[j + 2]? = some (1, 0) := by
    rw [e1]
    show (List.replicate j (3, 0) ++ (1, 0) :: (List.replicate (m - (j + 1)) (1, 0) ++ List.replicate (n - 2 - m) (0, 0)))[j]? = _
    rw [List.getElem?_append_right (by simp)]; simp
  rw [h1]
  refine ⟨_, h.hp.drop1 (j + 2) 0 (by omega) (by omega) hg, ⟨⟨h.hp.hl, h.hp.dead, by show (p.pages.set _ _).length = n; simp [h.hp.len], h.hp.n4⟩, h.gen, h.pins, h.ops, by omega, h.len, h.room, ?_, h.ok⟩⟩
  show p.pages.set (j + 2) (3, 0) = _
  rw [e1]
  show (0, 0) :: (0, 0) :: ((List.replicate j (3, 0) ++ (1, 0) :: (List.replicate (m - (j + 1)) (1, 0) ++ List.replicate (n - 2 - m) (0, 0))).set j (3, 0)) = _
  rw [set_rep, rep_snoc]

/-- What those that were dropped are behind i commits. -/
def cP (i : Nat) : Nat × Nat := if i = 0 then (3, 0) else (4, 3)
theorem cP_turn (i : Nat) : setl [2] (cmF (2 + i + 1) (cP i)) = (4, 3) := by
  unfold cP
  by_cases h : i = 0
  · subst h; decide
  · rw [if_neg h]; simp [cmF, setl]
theorem cP_ne (i : Nat) : (cP i).1 ≠ 0 := by unfold cP; split <;> simp
/-- i commits with other pages, q of which are put. -/
structure PiI (p : Pg) (n k m q i : Nat) (has : List (Nat × ByteArray)) : Prop where
  hp : HP p n k
  gen : p.gen = 2 + i
  pins : p.pins = [2]
  ops : p.ops = 1
  len : has.length = m
  room : m + q + 2 ≤ n
  qi : q = min i (n - 2 - m)
  pages : p.pages = (0, 0) :: (0, 0) :: (List.replicate m (cP i) ++ (List.replicate q (1, 0) ++ List.replicate (n - 2 - m - q) (0, 0)))
  ok : HasOk p.d has
theorem PiD.piI {p : Pg} {n k m : Nat} {has : List (Nat × ByteArray)} (h : PiD p n k m m has) : PiI p n k m 0 0 has :=
  ⟨h.hp, h.gen, h.pins, h.ops, h.len, by have := h.room; omega, by omega, by rw [h.pages]; simp [cP], h.ok⟩
theorem com_core {p : Pg} {n k m i : Nat} {has : List (Nat × ByteArray)} {A B : List (Nat × Nat)} (s : List UInt8) (hs : s.length ≤ 490) (hi : i ≤ 1000) (hp : HP p n k) (hg : p.gen = 2 + i) (hpi : p.pins = [2]) (ho : p.ops = 1)
    (hpg : p.pages = (0, 0) :: (0, 0) :: (List.replicate m (cP i) ++ A)) (hA : A.map (fun x => setl [2] (cmF (2 + i + 1) x)) = B) (hok : HasOk p.d has) (hn : has.length + 2 ≤ n) :
    ∃ p2, commitP p s = (0, p2) ∧ HP p2 n (k + 3) ∧ p2.gen = 2 + (i + 1) ∧ p2.pins = [2] ∧ p2.ops = 1 ∧ p2.pages = (0, 0) :: (0, 0) :: (List.replicate m (4, 3) ++ B) ∧ HasOk p2.d has := by
  obtain ⟨d1, c1, c2, c3, c4⟩ := hp.commit s (by rw [hg]; omega) hs
  rw [hg, hpg] at c1
  rw [hg] at c4
  have e : settleP { p with d := d1, gen := 2 + i + 1, root := s, pages := List.map (cmF (2 + i + 1)) ((0, 0) :: (0, 0) :: (List.replicate m (cP i) ++ A)) } = { p with d := d1, gen := 2 + i + 1, root := s, pages := (0, 0) :: (0, 0) :: (List.replicate m (4, 3) ++ B) } := by
    unfold settleP
    simp only [hpi, List.map_cons, List.map_append, List.map_replicate, List.map_map, cP_turn]
    have e0 : setl [2] (cmF (2 + i + 1) (0, 0)) = (0, 0) := by simp [cmF, setl]
    have e1 : List.map (setl [2] ∘ cmF (2 + i + 1)) A = B := hA
    rw [e0, e1]
  rw [e] at c1
  refine ⟨_, c1, ⟨c2, hp.dead, ?_, hp.n4⟩, by show 2 + i + 1 = _; omega, hpi, ho, rfl, fun j x hx => ?_⟩
  · have h1 := hp.len
    rw [hpg] at h1
    rw [← hA]
    simpa using h1
  · obtain ⟨h1, h2, h3⟩ := hok j x hx
    have hj := (List.getElem?_eq_some_iff.1 hx).1
    exact ⟨h1, h2, by show cont d1 x.1 = _; rw [c4 _ (by omega), if_neg (by omega)]; exact h3⟩
theorem rest_turn (i q r : Nat) : (List.replicate q ((1 : Nat), (0 : Nat)) ++ List.replicate r (0, 0)).map (fun x => setl [2] (cmF (2 + i + 1) x)) = List.replicate q (1, 0) ++ List.replicate r (0, 0) := by
  have e0 : setl [2] (cmF (2 + i + 1) (0, 0)) = (0, 0) := by simp [cmF, setl]
  have e1 : setl [2] (cmF (2 + i + 1) (1, 0)) = (1, 0) := by simp [cmF, setl]
  rw [List.map_append, List.map_replicate, List.map_replicate, e0, e1]
theorem PiI.putOk {p : Pg} {n k m q i : Nat} {has : List (Nat × ByteArray)} (h : PiI p n k m q i has) (hq : q < n - 2 - m) (hi : i ≤ 1000) (s : List UInt8) (hs : s.length ≤ 492) :
    ∃ p1 p2, putP p 1 s = (m + q + 2, 0, p1) ∧ HP p1 n (k + 1) ∧ commitP p1 [120] = (0, p2) ∧ PiI p2 n (k + 4) m (q + 1) (i + 1) has := by
  have hroom := h.room
  have hlen := h.len
  have hqi := h.qi
  have e0 : n - 2 - m - q = (n - 2 - m - (q + 1)) + 1 := by omega
  have e1 : p.pages = (0, 0) :: (0, 0) :: (List.replicate m (cP i) ++ (List.replicate q (1, 0) ++ (0, 0) :: List.replicate (n - 2 - m - (q + 1)) (0, 0))) := by rw [h.pages, e0, List.replicate_succ]
  have e2 : ffL p.pages = m + q + 2 := by rw [e1, ffL_two, find_rep _ _ (cP_ne i), find_rep _ _ (by simp), List.findIdx_cons]; simp; omega
  obtain ⟨d', k1, k2, k3⟩ := h.hp.put 1 s (m + q + 2) (by omega) (by rw [h.gen]; omega) hs e2 (by omega)
  have e3 : p.pages.set (m + q + 2) (2, (p.pages.getD (m + q + 2) (0, 0)).2) = (0, 0) :: (0, 0) :: (List.replicate m (cP i) ++ (List.replicate q (1, 0) ++ (2, 0) :: List.replicate (n - 2 - m - (q + 1)) (0, 0))) := by
    have g : (p.pages.getD (m + q + 2) (0, 0)).2 = 0 := by
      rw [e1]
      show ((List.replicate m (cP i) ++ (List.replicate q (1, 0) ++ (0, 0) :: List.replicate (n - 2 - m - (q + 1)) (0, 0))).getD (m + q) (0, 0)).2 = 0
      rw [List.getD, List.getElem?_append_right (by simp), List.getElem?_append_right (by simp)]; simp
    rw [g, e1]
    show (0, 0) :: (0, 0) :: ((List.replicate m (cP i) ++ (List.replicate q (1, 0) ++ (0, 0) :: List.replicate (n - 2 - m - (q + 1)) (0, 0))).set (m + q) (2, 0)) = _
    rw [List.set_append_right _ _ (by simp), List.length_replicate, Nat.add_sub_cancel_left, set_rep]
  rw [e3] at k1
  have H1 : HP { p with d := d', pages := (0, 0) :: (0, 0) :: (List.replicate m (cP i) ++ (List.replicate q (1, 0) ++ (2, 0) :: List.replicate (n - 2 - m - (q + 1)) (0, 0))) } n (k + 1) :=
    ⟨k2, h.hp.dead, by simp; omega, h.hp.n4⟩
  have hok : HasOk d' has := by
    intro j x hx
    obtain ⟨h1, h2, h3⟩ := h.ok j x hx
    have hj := (List.getElem?_eq_some_iff.1 hx).1
    exact ⟨h1, h2, by rw [k3, if_neg (by omega)]; exact h3⟩
  obtain ⟨p2, c1, c2, c3, c4, c5, c6, c7⟩ := com_core (has := has) (B := List.replicate (q + 1) (1, 0) ++ List.replicate (n - 2 - m - (q + 1)) (0, 0)) [120] (by simp) hi H1 h.gen h.pins h.ops rfl (by
    have e : setl [2] (cmF (2 + i + 1) (2, 0)) = (1, 0) := by simp [cmF, setl]
    have e' := rest_turn i 0 (n - 2 - m - (q + 1))
    have e'' := rest_turn i q 0
    simp only [List.replicate_zero, List.nil_append, List.append_nil] at e' e''
    rw [List.map_append, List.map_cons, e, e', e'', rep_snoc]) hok (by omega)
  refine ⟨_, p2, k1, H1, c1, ⟨c2.up (by omega), c3, c4, c5, hlen, by omega, by omega, ?_, c7⟩⟩
  rw [c6]; rfl
theorem PiI.putFull {p : Pg} {n k m q i : Nat} {has : List (Nat × ByteArray)} (h : PiI p n k m q i has) (hq : ¬ q < n - 2 - m) (hi : i ≤ 1000) (s : List UInt8) (hs : s.length ≤ 492) :
    ∃ p2, putP p 1 s = (0, 6, p) ∧ commitP p [120] = (0, p2) ∧ PiI p2 n (k + 4) m q (i + 1) has := by
  have hroom := h.room
  have hlen := h.len
  have hqi := h.qi
  have e0 : n - 2 - m - q = 0 := by omega
  have e1 : p.pages = (0, 0) :: (0, 0) :: (List.replicate m (cP i) ++ List.replicate q (1, 0)) := by rw [h.pages, e0]; simp
  have e2 : ffL p.pages = n := by rw [e1, ffL_two, find_rep _ _ (cP_ne i), find_rep0 _ _ (by simp)]; omega
  have k1 := h.hp.full 1 s (by omega) (by rw [h.gen]; omega) hs e2
  obtain ⟨p2, c1, c2, c3, c4, c5, c6, c7⟩ := com_core (has := has) [120] (by simp) hi h.hp h.gen h.pins h.ops h.pages (rest_turn i q _) h.ok (by omega)
  refine ⟨p2, k1, c1, ⟨c2.up (by omega), c3, c4, c5, hlen, by omega, by omega, ?_, c7⟩⟩
  rw [c6]; rfl
theorem PiI.up {p : Pg} {n k k' m q i : Nat} {has : List (Nat × ByteArray)} (h : PiI p n k m q i has) (hk : k ≤ k') : PiI p n k' m q i has := ⟨h.hp.up hk, h.gen, h.pins, h.ops, h.len, h.room, h.qi, h.pages, h.ok⟩
theorem PiI.read {p : Pg} {n k m q i j : Nat} {has : List (Nat × ByteArray)} (h : PiI p n k m q i has) (hm : m ≤ 12) {x : Nat × ByteArray} (hx : has[j]? = some x) : readP p (x.1 : Int) = ((j, x.2.data.toList, 0), p) := by
  obtain ⟨h1, h2, h3⟩ := h.ok j x hx
  have hj := (List.getElem?_eq_some_iff.1 hx).1
  have hlen := h.len
  have hroom := h.room
  have hg : p.pages[j + 2]? = some (cP i) := by
    rw [h.pages]
    show (List.replicate m (cP i) ++ _)[j]? = _
    rw [List.getElem?_append_left (by simp; omega), List.getElem?_replicate, if_pos (by omega)]
  rw [h1]
  rw [h1] at h3
  exact h.hp.read (j + 2) (by omega) (by omega) _ hg (cP_ne i) j 2 _ h3 (by omega) (by omega) (by rw [size_toList]; exact h2)
theorem PiI.free {p : Pg} {n k m q i : Nat} {has : List (Nat × ByteArray)} (h : PiI p n k m q i has) : freeL p.pages = n - 2 - m - q := by
  have h0 : ((cP i).1 == 0) = false := by rw [beq_eq_false_iff_ne]; exact cP_ne i
  rw [h.pages, freeL_two, List.filter_append, List.filter_append, List.filter_replicate, List.filter_replicate, List.filter_replicate]
  simp [cP_ne i]
theorem PiI.last {p : Pg} {n k m q i : Nat} {has : List (Nat × ByteArray)} (h : PiI p n k m q i has) (hi : i ≤ 1000) :
    ∃ p2 p3, commitP p [121] = (0, p2) ∧ p2.ops = 1 ∧ unpinP p2 2 = (0, p3) ∧ p3.ops = 2 ∧ freeL p3.pages = n - 2 - m - q + m ∧ unpinP p3 2 = (7, p3) := by
  have hroom := h.room
  have hlen := h.len
  obtain ⟨p2, c1, c2, c3, c4, c5, c6, c7⟩ := com_core (has := has) [121] (by simp) hi h.hp h.gen h.pins h.ops h.pages (rest_turn i q _) h.ok (by omega)
  refine ⟨p2, settleP { p2 with pins := [], ops := 2 }, c1, c5, ?_, rfl, ?_, rfl⟩
  · unfold unpinP; rw [c4, c5]; rfl
  · unfold settleP
    rw [c6]
    simp only [List.map_cons, List.map_append, List.map_replicate]
    have e0 : setl [] (0, 0) = (0, 0) := by decide
    have e1 : setl [] (1, 0) = (1, 0) := by decide
    have e4 : setl [] (4, 3) = (0, 0) := by decide
    rw [e0, e1, e4, freeL_two, List.filter_append, List.filter_append, List.filter_replicate, List.filter_replicate, List.filter_replicate]
    simp; omega

end Go.Proofs.Ytadhibemadgcoaa
