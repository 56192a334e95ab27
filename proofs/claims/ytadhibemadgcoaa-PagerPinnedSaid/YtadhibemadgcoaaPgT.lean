/- Plain laws for a disk that is filled. Conditions: as each lemma says. -/
import Derived.Test.YtadhibemadgcoaaPgS
namespace Go.Proofs.Ytadhibemadgcoaa
open Go.RowKit

theorem ffL_two (a b : Nat × Nat) (L : List (Nat × Nat)) : ffL (a :: b :: L) = 2 + L.findIdx (fun x => x.1 == 0) := rfl
theorem freeL_two (a b : Nat × Nat) (L : List (Nat × Nat)) : freeL (a :: b :: L) = (L.filter fun x => x.1 == 0).length := rfl
theorem find_rep (m : Nat) (x : Nat × Nat) (hx : x.1 ≠ 0) (L : List (Nat × Nat)) : (List.replicate m x ++ L).findIdx (fun x => x.1 == 0) = m + L.findIdx (fun x => x.1 == 0) := by
  induction m with
  | zero => simp
  | succ m ih =>
    have hb : (x.1 == 0) = false := by rw [beq_eq_false_iff_ne]; exact hx
    rw [List.replicate_succ, List.cons_append, List.findIdx_cons, ih, hb]
    show m + _ + 1 = _
    omega
theorem find_rep0 (m : Nat) (x : Nat × Nat) (hx : x.1 ≠ 0) : (List.replicate m x).findIdx (fun x => x.1 == 0) = m := by
  have := find_rep m x hx []; simpa using this
theorem set_rep (m : Nat) (x y z : Nat × Nat) (L : List (Nat × Nat)) : (List.replicate m x ++ y :: L).set m z = List.replicate m x ++ z :: L := by
  rw [List.set_append_right _ _ (by simp)]; simp
theorem rep_snoc (m : Nat) (x : Nat × Nat) (L : List (Nat × Nat)) : List.replicate m x ++ x :: L = List.replicate (m + 1) x ++ L := by
  rw [List.replicate_succ', List.append_assoc]; rfl

/-- m pages of a new pager are put. -/
structure RoomAt (p : Pg) (n m : Nat) : Prop where
  hp : HP p n (1000 + m)
  gen : p.gen = 1
  pins : p.pins = []
  pages : p.pages = (0, 0) :: (0, 0) :: (List.replicate m (2, 0) ++ List.replicate (n - 2 - m) (0, 0))
theorem RoomAt.step {p : Pg} {n m : Nat} (h : RoomAt p n m) (hm : m + 2 < n) (s : List UInt8) (hs : s.length ≤ 492) :
    ∃ p', putP p 3 s = (m + 2, 0, p') ∧ RoomAt p' n (m + 1) := by
  have e0 : n - 2 - m = (n - 2 - (m + 1)) + 1 := by omega
  have e1 : p.pages = (0, 0) :: (0, 0) :: (List.replicate m (2, 0) ++ (0, 0) :: List.replicate (n - 2 - (m + 1)) (0, 0)) := by rw [h.pages, e0, List.replicate_succ]
  have e2 : ffL p.pages = m + 2 := by rw [e1, ffL_two, find_rep _ _ (by simp), List.findIdx_cons]; simp; omega
  obtain ⟨d', k1, k2, k3⟩ := h.hp.put 3 s (m + 2) (by omega) (by rw [h.gen]; omega) hs e2 hm
  have e3 : p.pages.set (m + 2) (2, (p.pages.getD (m + 2) (0, 0)).2) = (0, 0) :: (0, 0) :: (List.replicate (m + 1) (2, 0) ++ List.replicate (n - 2 - (m + 1)) (0, 0)) := by
    have g : (p.pages.getD (m + 2) (0, 0)).2 = 0 := by
      rw [e1]
      show ((List.replicate m (2, 0) ++ (0, 0) :: List.replicate (n - 2 - (m + 1)) (0, 0)).getD m (0, 0)).2 = 0
      rw [List.getD, List.getElem?_append_right (by simp)]; simp
    rw [g, e1]
    show (0, 0) :: (0, 0) :: ((List.replicate m (2, 0) ++ (0, 0) :: List.replicate (n - 2 - (m + 1)) (0, 0)).set m (2, 0)) = _
    rw [set_rep, rep_snoc]
  rw [e3] at k1
  refine ⟨_, k1, ⟨k2, h.hp.dead, ?_, h.hp.n4⟩, h.gen, h.pins, rfl⟩
  simp; have := h.hp.n4; omega
theorem setl_map_nil (l : List (Nat × Nat)) : l.map (setl []) = l.map (fun x => if x.1 = 4 then (0, 0) else x) := by
  congr 1; funext x; unfold setl; simp
theorem RoomAt.last {p : Pg} {n : Nat} (h : RoomAt p n (n - 2)) (hn : n ≤ 60) (s : List UInt8) (hs : s.length ≤ 492) :
    putP p 3 s = (0, 6, p) ∧ freeL p.pages = 0 ∧ ∃ p1 p2 p3 p4, HP p n 5000 ∧ commitP p [97] = (0, p1) ∧ HP p1 n 5000 ∧ dropP p1 2 = (0, p2) ∧ HP p2 n 5000 ∧ putP p2 3 s = (0, 6, p2) ∧ commitP p2 [98] = (0, p3) ∧ HP p3 n 5000 ∧ putP p3 3 s = (2, 0, p4) := by
  have n4 := h.hp.n4
  obtain ⟨m, rfl⟩ : ∃ m, n = m + 3 := ⟨n - 3, by omega⟩
  have e1 : p.pages = (0, 0) :: (0, 0) :: List.replicate (m + 1) (2, 0) := by rw [h.pages]; simp
  have k1 := h.hp.full 3 s (by omega) (by rw [h.gen]; omega) hs (by rw [e1, ffL_two, find_rep0 _ _ (by simp)]; omega)
  have k2 : freeL p.pages = 0 := by rw [e1, freeL_two, List.filter_replicate]; simp
  obtain ⟨d1, c1, c2, c3, c4⟩ := h.hp.commit [97] (by rw [h.gen]; omega) (by simp)
  rw [h.gen, e1] at c1
  have q1 : settleP { p with d := d1, gen := 1 + 1, root := [97], pages := List.map (cmF (1 + 1)) ((0, 0) :: (0, 0) :: List.replicate (m + 1) (2, 0)) } = { p with d := d1, gen := 2, root := [97], pages := (0, 0) :: (0, 0) :: (1, 0) :: List.replicate m (1, 0) } := by
    unfold settleP; simp [h.pins, cmF, setl, List.replicate_succ]
  rw [q1] at c1
  have H1 : HP { p with d := d1, gen := 2, root := [97], pages := (0, 0) :: (0, 0) :: (1, 0) :: List.replicate m (1, 0) } (m + 3) 5000 := ⟨c2.up (by omega), h.hp.dead, by simp, by omega⟩
  have e2 := H1.drop1 2 0 (by omega) (by omega) rfl
  have H2 : HP { p with d := d1, gen := 2, root := [97], pages := (0, 0) :: (0, 0) :: (3, 0) :: List.replicate m (1, 0) } (m + 3) 4000 := ⟨c2.up (by omega), h.hp.dead, by simp, by omega⟩
  have e3 := H2.full 3 s (by omega) (by show 2 + 1 ≤ _; omega) hs (by show ffL ((0, 0) :: (0, 0) :: ((3, 0) :: List.replicate m (1, 0))) = _; rw [ffL_two, List.findIdx_cons, find_rep0 _ _ (by simp)]; simp; omega)
  obtain ⟨d3, f1, f2, f3, f4⟩ := H2.commit [98] (by show 2 + 1 ≤ _; omega) (by simp)
  have q2 : settleP { ({ p with d := d1, gen := 2, root := [97], pages := (0, 0) :: (0, 0) :: (3, 0) :: List.replicate m (1, 0) } : Pg) with d := d3, gen := 2 + 1, root := [98], pages := List.map (cmF (2 + 1)) ((0, 0) :: (0, 0) :: (3, 0) :: List.replicate m (1, 0)) } = { p with d := d3, gen := 3, root := [98], pages := (0, 0) :: (0, 0) :: (0, 0) :: List.replicate m (1, 0) } := by
    unfold settleP; simp [h.pins, cmF, setl]
  have H3 : HP { p with d := d3, gen := 3, root := [98], pages := (0, 0) :: (0, 0) :: (0, 0) :: List.replicate m (1, 0) } (m + 3) 5000 := ⟨f2.up (by omega), h.hp.dead, by simp, by omega⟩
  obtain ⟨d4, g1, g2, g3⟩ := H3.put 3 s 2 (by omega) (by show 3 + 1 ≤ _; omega) hs (by rfl) (by omega)
  exact ⟨k1, k2, _, _, _, _, h.hp.up (by omega), c1, H1, e2, H2.up (by omega), e3, f1.trans (by rw [← q2]), H3, g1⟩

/-- The beginning. -/
theorem room_begin (n : Nat) (h4 : 4 ≤ n) (h6 : n ≤ 4096) : ∃ d, formatD { L := List.replicate n (zeros 512), wait := [], steps := 0, fuse := -1, gone := false } = (0, d) ∧ openE d = 0 ∧ Hl d n 1000 ∧ RoomAt (openP d) n 0 ∧ freeL (openP d).pages = n - 2 := by
  obtain ⟨d, k1, k2, k3, k4⟩ := HP.begin (Hl.new n (by omega) h6) h4
  have e : List.replicate n ((0 : Nat), (0 : Nat)) = (0, 0) :: (0, 0) :: List.replicate (n - 2) (0, 0) := by
    rw [show n = (n - 2) + 1 + 1 by omega, List.replicate_succ, List.replicate_succ]; rfl
  refine ⟨d, k1, k2, k4.up (by omega), ⟨⟨by rw [k3]; exact k4.up (by omega), by rw [k3], by rw [k3]; simp, h4⟩, by rw [k3], by rw [k3], by rw [k3]; simp [e]⟩, ?_⟩
  rw [k3]
  show freeL (List.replicate n (0, 0)) = _
  rw [e, freeL_two, List.filter_replicate]; simp

end Go.Proofs.Ytadhibemadgcoaa
