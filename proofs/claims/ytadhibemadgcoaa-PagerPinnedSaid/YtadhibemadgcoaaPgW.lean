/- Plain laws for what is taken back. Conditions: as each lemma says. -/
import Derived.Test.YtadhibemadgcoaaPgV
namespace Go.Proofs.Ytadhibemadgcoaa
open Go.RowKit

/-- The pages as begun leaves them, f for those that are committed. -/
def bPages (x : Nat × Nat) (n m : Nat) : List (Nat × Nat) := (0, 0) :: (0, 0) :: (List.replicate m x ++ List.replicate (n - 2 - m) (0, 0))
theorem bPages_length (x : Nat × Nat) (n m : Nat) (h : m + 2 ≤ n) : (bPages x n m).length = n := by unfold bPages; simp; omega
theorem bPages_get (x : Nat × Nat) (n m j : Nat) (h : j < m) : (bPages x n m)[j + 2]? = some x := by
  show (List.replicate m x ++ List.replicate (n - 2 - m) (0, 0))[j]? = _
  rw [List.getElem?_append_left (by simpa using h), List.getElem?_replicate, if_pos h]
theorem bPages_two {n m i : Nat} {y : Nat × Nat} (h : (bPages (1, 0) n m)[i]? = some y) : y = (0, 0) ∨ y = (1, 0) := by
  have := List.mem_of_getElem? h
  unfold bPages at this
  simp at this
  rcases this with h | h | h
  · exact .inl h
  · exact .inr h.2
  · exact .inl h.2
theorem bPages_free (n m : Nat) : freeL (bPages (1, 0) n m) = n - 2 - m := by
  unfold bPages; rw [freeL_two, List.filter_append, List.filter_replicate, List.filter_replicate]; simp
theorem ffL_free {l : List (Nat × Nat)} {j : Nat} (h : ffL l = j) (h2 : 2 ≤ l.length) (hj : j < l.length) : ∃ x, l[j]? = some x ∧ x.1 = 0 ∧ 2 ≤ j := by
  obtain _ | ⟨a, _ | ⟨b, L⟩⟩ := l
  · simp at h2
  · simp at h2
  · rw [ffL_two] at h
    subst h
    have hlt : L.findIdx (fun x => x.1 == 0) < L.length := by simp at hj; omega
    have e : (a :: b :: L)[2 + L.findIdx (fun x => x.1 == 0)]? = L[L.findIdx (fun x => x.1 == 0)]? := by rw [Nat.add_comm]; rfl
    refine ⟨L[L.findIdx (fun x => x.1 == 0)]'hlt, by rw [e]; exact List.getElem?_eq_getElem hlt, ?_, by omega⟩
    have := List.findIdx_getElem (w := hlt) (p := fun x : Nat × Nat => x.1 == 0)
    simpa using this
theorem ffL_le {l : List (Nat × Nat)} (h2 : 2 ≤ l.length) : ffL l ≤ l.length := by
  obtain _ | ⟨a, _ | ⟨b, L⟩⟩ := l
  · simp at h2
  · simp at h2
  · rw [ffL_two]
    have := List.findIdx_le_length (xs := L) (p := fun x : Nat × Nat => x.1 == 0)
    simp; omega

/-- What is put and dropped, and may be taken back. -/
structure AbI (p : Pg) (n k : Nat) (has : List (Nat × ByteArray)) : Prop where
  hp : HP p n k
  gen : p.gen = 2
  root : p.root = [111, 108, 100]
  pins : p.pins = []
  pages : p.pages.map abF = bPages (1, 0) n has.length
  room : has.length + 2 ≤ n
  ok : HasOk p.d has
theorem Begun.abI {p : Pg} {n : Nat} {has : List (Nat × ByteArray)} (h : Begun p n has) (hn : 14 ≤ n) : AbI p n 2000 has := by
  refine ⟨h.hp, h.gen, h.root, h.pins, ?_, by have := h.len; omega, h.ok⟩
  rw [h.pages]; unfold bPages; simp [abF]
theorem AbI.up {p : Pg} {n k m : Nat} {has : List (Nat × ByteArray)} (h : AbI p n k has) (hm : k ≤ m) : AbI p n m has := ⟨h.hp.up hm, h.gen, h.root, h.pins, h.pages, h.room, h.ok⟩
theorem AbI.at_ {p : Pg} {n k : Nat} {has : List (Nat × ByteArray)} (h : AbI p n k has) {i : Nat} {x : Nat × Nat} (hx : p.pages[i]? = some x) : (bPages (1, 0) n has.length)[i]? = some (abF x) := by
  rw [← h.pages, List.getElem?_map, hx]; rfl
theorem map_set_same {α β : Type} (f : α → β) (l : List α) (j : Nat) (y : α) (h : ∀ x, l[j]? = some x → f y = f x) : (l.set j y).map f = l.map f := by
  apply List.ext_getElem?
  intro i
  rw [List.getElem?_map, List.getElem?_map, List.getElem?_set]
  by_cases hij : j = i
  · subst hij
    rw [if_pos rfl]
    cases hx : l[j]? with
    | none => rw [if_neg (by rw [List.getElem?_eq_none_iff] at hx; omega)]
    | some x => rw [if_pos (List.getElem?_eq_some_iff.1 hx).1, Option.map_some, Option.map_some, h x hx]
  · rw [if_neg hij]
theorem AbI.put {p : Pg} {n k : Nat} {has : List (Nat × ByteArray)} (h : AbI p n k has) (s : List UInt8) (hs : s.length ≤ 492) : ∃ a b p', putP p 1 s = (a, b, p') ∧ AbI p' n (k + 1) has := by
  have hn := h.hp.n4
  have hl := h.hp.len
  by_cases hj : ffL p.pages < n
  · obtain ⟨d', k1, k2, k3⟩ := h.hp.put 1 s (ffL p.pages) (by omega) (by rw [h.gen]; omega) hs rfl hj
    obtain ⟨x, hx, hx0, hx2⟩ := ffL_free (l := p.pages) rfl (by omega) (by omega)
    have hb := h.at_ hx
    have e0 : abF x = (0, 0) := by
      rcases bPages_two hb with e | e
      · exact e
      · unfold abF at e; rw [if_neg (by omega), if_neg (by omega)] at e; rw [e] at hx0; cases hx0
    refine ⟨_, _, _, k1, ⟨⟨k2, h.hp.dead, by simp [hl], hn⟩, h.gen, h.root, h.pins, ?_, h.room, fun j y hy => ?_⟩⟩
    · show (p.pages.set (ffL p.pages) _).map abF = _
      rw [map_set_same, h.pages]
      intro x' hx'
      rw [hx] at hx'; cases hx'
      rw [e0]; rfl
    · obtain ⟨h1, h2, h3⟩ := h.ok j y hy
      refine ⟨h1, h2, ?_⟩
      show cont d' y.1 = _
      rw [k3, if_neg, h3]
      intro e
      have hjm := (List.getElem?_eq_some_iff.1 hy).1
      have hg := bPages_get (1, 0) n has.length j hjm
      rw [← h1, e, hb, e0] at hg
      cases hg
  · have hle := ffL_le (l := p.pages) (by omega)
    have := h.hp.full 1 s (by omega) (by rw [h.gen]; omega) hs (by omega)
    exact ⟨_, _, _, this, h.up (by omega)⟩
theorem AbI.drop {p : Pg} {n k : Nat} {has : List (Nat × ByteArray)} (h : AbI p n k has) (i : Int) : AbI (dropP p i).2 n k has := by
  unfold dropP
  rw [if_neg (by rw [h.hp.dead]; simp)]
  have keep : ∀ y, (∀ x, p.pages[i.toNat]? = some x → abF y = abF x) → AbI { p with pages := p.pages.set i.toNat y } n k has := fun y hy =>
    ⟨⟨h.hp.hl, h.hp.dead, by simp [h.hp.len], h.hp.n4⟩, h.gen, h.root, h.pins, by rw [← h.pages]; exact map_set_same _ _ _ _ hy, h.room, h.ok⟩
  by_cases hh : hasP p i = true
  · rw [if_pos hh]
    cases hx : p.pages[i.toNat]? with
    | none => exact h
    | some x =>
      simp only
      by_cases h2 : x.1 = 2
      · rw [if_pos h2]
        exact keep _ (fun y hy => by rw [hx] at hy; cases hy; unfold abF; rw [if_pos h2]; rfl)
      · rw [if_neg h2]
        by_cases h1 : x.1 = 1
        · rw [if_pos h1]
          exact keep _ (fun y hy => by rw [hx] at hy; cases hy; obtain ⟨a, b⟩ := x; dsimp only at h1; subst h1; rfl)
        · rw [if_neg h1]; exact h
  · rw [if_neg hh]; exact h

/-- The committed pages are read and dropped, one after the other. -/
structure DrI (p : Pg) (n k m j : Nat) (has : List (Nat × ByteArray)) : Prop where
  hp : HP p n k
  gen : p.gen = 2
  root : p.root = [111, 108, 100]
  pins : p.pins = []
  le : j ≤ has.length
  len : has.length = m
  room : m + 2 ≤ n
  pages : p.pages = (0, 0) :: (0, 0) :: (List.replicate j (3, 0) ++ (List.replicate (m - j) (1, 0) ++ List.replicate (n - 2 - m) (0, 0)))
  ok : HasOk p.d has
theorem AbI.abort {p : Pg} {n k : Nat} {has : List (Nat × ByteArray)} (h : AbI p n k has) : DrI (abortP p) n k has.length 0 has :=
  ⟨⟨h.hp.hl, h.hp.dead, by show (p.pages.map abF).length = n; simp [h.hp.len], h.hp.n4⟩, h.gen, h.root, h.pins, Nat.zero_le _, rfl, h.room, by show p.pages.map abF = _; rw [h.pages]; rfl, h.ok⟩
theorem DrI.free {p : Pg} {n k m : Nat} {has : List (Nat × ByteArray)} (h : DrI p n k m 0 has) : freeL p.pages = n - 2 - m := by
  rw [h.pages]; exact bPages_free n m
/-- Read of a page. -/
theorem HP.read {p : Pg} {n k : Nat} (h : HP p n k) (i : Nat) (h2 : 2 ≤ i) (hi : i < n) (x : Nat × Nat) (hx : p.pages[i]? = some x) (hx0 : x.1 ≠ 0) (kind gen : Nat) (s : List UInt8) (hc : cont p.d i = sealB kind gen s) (hk : kind ≤ 255) (hg : gen ≤ 281474976710655) (hs : s.length ≤ 492) :
    readP p (i : Int) = ((kind, s, 0), p) := by
  have hl : liveP p (i : Int) = true := by
    unfold liveP hasP
    rw [h.len, Int.toNat_natCast, List.getD, hx]
    simp; omega
  unfold readP
  rw [if_neg (by rw [h.dead]; simp), if_neg (by rw [hl]; simp), h.hl.read i hi, if_neg (by simp), hc, open_seal kind gen s hk hg hs]
theorem DrI.step {p : Pg} {n k m j : Nat} {has : List (Nat × ByteArray)} (h : DrI p n k m j has) (hm : m ≤ 12) {x : Nat × ByteArray} (hx : has[j]? = some x) :
    readP p (x.1 : Int) = ((j, x.2.data.toList, 0), p) ∧ ∃ p', dropP p (x.1 : Int) = (0, p') ∧ DrI p' n k m (j + 1) has := by
  obtain ⟨h1, h2, h3⟩ := h.ok j x hx
  have hj := (List.getElem?_eq_some_iff.1 hx).1
  have hlen := h.len
  have hroom := h.room
  have e0 : m - j = (m - (j + 1)) + 1 := by omega
  have e1 : p.pages = (0, 0) :: (0, 0) :: (List.replicate j (3, 0) ++ (1, 0) :: (List.replicate (m - (j + 1)) (1, 0) ++ List.replicate (n - 2 - m) (0, 0))) := by rw [h.pages, e0, List.replicate_succ]; rfl
  have hg : p.pages[j + 2]? = some (1, 0) := by
    rw [e1]
    show (List.replicate j (3, 0) ++ (1, 0) :: (List.replicate (m - (j + 1)) (1, 0) ++ List.replicate (n - 2 - m) (0, 0)))[j]? = _
    rw [List.getElem?_append_right (by simp)]; simp
  rw [h1]
  rw [h1] at h3
  refine ⟨h.hp.read (j + 2) (by omega) (by omega) _ hg (by simp) j 2 _ h3 (by omega) (by omega) (by rw [size_toList]; exact h2), _, h.hp.drop1 (j + 2) 0 (by omega) (by omega) hg, ⟨⟨h.hp.hl, h.hp.dead, by show (p.pages.set _ _).length = n; simp [h.hp.len], h.hp.n4⟩, h.gen, h.root, h.pins, by omega, h.len, h.room, ?_, h.ok⟩⟩
  show p.pages.set (j + 2) (3, 0) = _
  rw [e1]
  show (0, 0) :: (0, 0) :: ((List.replicate j (3, 0) ++ (1, 0) :: (List.replicate (m - (j + 1)) (1, 0) ++ List.replicate (n - 2 - m) (0, 0))).set j (3, 0)) = _
  rw [set_rep, rep_snoc]
theorem DrI.last {p : Pg} {n k m : Nat} {has : List (Nat × ByteArray)} (h : DrI p n k m m has) : ∃ p', commitP p [122] = (0, p') ∧ freeL p'.pages = n - 2 - m + m := by
  obtain ⟨d1, c1, c2, c3, c4⟩ := h.hp.commit [122] (by rw [h.gen]; omega) (by simp)
  refine ⟨_, c1, ?_⟩
  unfold settleP
  have hroom := h.room
  rw [h.pages, h.gen, h.pins, Nat.sub_self]
  simp only [List.map_cons, List.map_append, List.map_replicate, List.replicate_zero, List.nil_append]
  have e1 : setl [] (cmF (2 + 1) (3, 0)) = (0, 0) := by decide
  have e2 : setl [] (cmF (2 + 1) (0, 0)) = (0, 0) := by decide
  rw [e1, e2, freeL_two, List.filter_append, List.filter_replicate, List.filter_replicate]
  simp; omega

end Go.Proofs.Ytadhibemadgcoaa
