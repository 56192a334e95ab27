/- Plain laws of a pager with power: what it answers. Conditions: as each lemma says. -/
import Derived.Test.YtadhibemadgcoaaPgP
namespace Go.Proofs.Ytadhibemadgcoaa
open Go.RowKit

/-- A pager of n pages on a disk with power. -/
structure HP (p : Pg) (n k : Nat) : Prop where
  hl : Hl p.d n k
  dead : p.dead = false
  len : p.pages.length = n
  n4 : 4 ≤ n
theorem HP.up {p : Pg} {n k m : Nat} (h : HP p n k) (hm : k ≤ m) : HP p n m := ⟨h.hl.up hm, h.dead, h.len, h.n4⟩

theorem sealE_ok {kind gen : Int} {n : Nat} (h1 : 0 ≤ kind) (h2 : kind ≤ 255) (h3 : 0 ≤ gen) (h4 : gen ≤ 281474976710655) (h5 : n ≤ 492) : sealE kind gen n = 0 := by
  unfold sealE; rw [if_neg (by omega), if_neg (by omega)]
theorem srootE_ok {gen : Int} {n : Nat} (h3 : 1 ≤ gen) (h4 : gen ≤ 4611686018427387904) (h5 : n ≤ 490) : srootE gen n = 0 := by
  unfold srootE; rw [if_neg (by omega), if_neg (by omega)]
theorem srootL_ok {gen : Nat} {s : List UInt8} (h3 : 1 ≤ gen) (h4 : gen ≤ 4611686018427387904) (h5 : s.length ≤ 490) : srootL (gen : Int) s = rootB gen s := by
  unfold srootL; rw [if_pos (srootE_ok (by omega) (by omega) h5)]; rfl
theorem sealL_ok {kind gen : Nat} {s : List UInt8} (h2 : kind ≤ 255) (h4 : gen ≤ 281474976710655) (h5 : s.length ≤ 492) : sealL (kind : Int) (gen : Int) s = sealB kind gen s := by
  unfold sealL; rw [if_pos (sealE_ok (by omega) (by omega) (by omega) (by omega) h5)]; rfl

/-- Put where room is. -/
theorem HP.put {p : Pg} {n k : Nat} (h : HP p n k) (kind : Nat) (s : List UInt8) (j : Nat) (hk : kind ≤ 255) (hg : p.gen + 1 ≤ 281474976710655) (hs : s.length ≤ 492) (hj : ffL p.pages = j) (hjn : j < n) :
    ∃ d', putP p (kind : Int) s = (j, 0, { p with d := d', pages := p.pages.set j (2, (p.pages.getD j (0, 0)).2) }) ∧ Hl d' n (k + 1) ∧ ∀ i, cont d' i = if i = j then sealB kind (p.gen + 1) s else cont p.d i := by
  have e1 : sealL (kind : Int) ((p.gen : Int) + 1) s = sealB kind (p.gen + 1) s := by
    have := sealL_ok (kind := kind) (gen := p.gen + 1) (s := s) hk hg hs
    rw [← this]; congr 1
  obtain ⟨a1, a2, a3⟩ := h.hl.write j (sealB kind (p.gen + 1) s) hjn (sealB_length _ _ _)
  refine ⟨_, ?_, a2, a3⟩
  unfold putP
  rw [if_neg (by rw [h.dead]; simp), if_neg (by rw [sealE_ok (by omega) (by omega) (by omega) (by omega) hs]; simp), hj, if_neg (by rw [h.len]; omega), e1, if_neg (by rw [a1]; simp)]
/-- Put where no room is. -/
theorem HP.full {p : Pg} {n k : Nat} (h : HP p n k) (kind : Nat) (s : List UInt8) (hk : kind ≤ 255) (hg : p.gen + 1 ≤ 281474976710655) (hs : s.length ≤ 492) (hj : ffL p.pages = n) :
    putP p (kind : Int) s = (0, 6, p) := by
  unfold putP
  rw [if_neg (by rw [h.dead]; simp), if_neg (by rw [sealE_ok (by omega) (by omega) (by omega) (by omega) hs]; simp), hj, if_pos h.len.symm]
/-- Commit. -/
theorem HP.commit {p : Pg} {n k : Nat} (h : HP p n k) (s : List UInt8) (hg : p.gen + 1 ≤ 4611686018427387904) (hs : s.length ≤ 490) :
    ∃ d', commitP p s = (0, settleP { p with d := d', gen := p.gen + 1, root := s, pages := p.pages.map (cmF (p.gen + 1)) }) ∧ Hl d' n (k + 3) ∧ d'.wait = [] ∧ ∀ i, i < n → cont d' i = if i = (p.gen + 1) % 2 then rootB (p.gen + 1) s else cont p.d i := by
  have e1 : srootL ((p.gen : Int) + 1) s = rootB (p.gen + 1) s := by
    have := srootL_ok (gen := p.gen + 1) (s := s) (by omega) hg hs
    rw [← this]; congr 1
  obtain ⟨a1, a2, a3, a4⟩ := h.hl.root (p.gen + 1) (rootB (p.gen + 1) s) h.n4 (rootB_length _ _)
  refine ⟨_, ?_, a2, a3, a4⟩
  unfold commitP
  rw [if_neg (by rw [h.dead]; simp), if_neg (by rw [srootE_ok (by omega) (by omega) hs]; simp), e1, if_neg (by rw [a1]; simp)]
/-- A pager that is opened anew on a formatted disk. -/
theorem HP.begin {d : Dk} {n k : Nat} (h : Hl d n k) (hn : 4 ≤ n) : ∃ d', formatD d = (0, d') ∧ openE d' = 0 ∧ openP d' = { d := d', gen := 1, root := [], pages := List.replicate n (0, 0), pins := [], dead := false, ops := 0 } ∧ Hl d' n (k + 5) := by
  obtain ⟨a1, a2, a3, a4⟩ := h.format hn
  have c0 := a4 0 (by omega)
  have c1 := a4 1 (by omega)
  rw [if_pos rfl] at c0
  rw [if_neg (by omega), if_pos rfl] at c1
  obtain ⟨b1, b2⟩ := a2.open_ hn
  have e : pickR 1 (cont (formatD d).2 1) (pickR 0 (cont (formatD d).2 0) (0, [])) = (1, []) := by
    rw [c0, c1]
    have e0 : pickR 0 (zeros 512) (0, []) = (0, []) := by unfold pickR; rw [rootL_zeros]
    rw [e0]
    unfold pickR
    rw [root_seal 1 [] (by omega) (by omega) (by simp)]
    rfl
  rw [e] at b1 b2
  refine ⟨(formatD d).2, Prod.ext a1 rfl, by rw [b1]; rfl, ?_, a2⟩
  unfold openP
  rw [b2]
  unfold newP
  rw [a2.len]

/-- Drop of a page that is committed. -/
theorem HP.drop1 {p : Pg} {n k : Nat} (h : HP p n k) (j : Nat) (g : Nat) (h2 : 2 ≤ j) (hj : j < n) (hx : p.pages[j]? = some (1, g)) :
    dropP p (j : Int) = (0, { p with pages := p.pages.set j (3, g) }) := by
  unfold dropP
  have hh : hasP p (j : Int) = true := by unfold hasP; rw [h.len]; simp; omega
  rw [if_neg (by rw [h.dead]; simp), if_pos hh, Int.toNat_natCast, hx]
  simp

/-- The example's pages and answers. -/
theorem alive_pure : ∃ d1 p1 p2 p3 p4, formatD { L := List.replicate 6 (zeros 512), wait := [], steps := 0, fuse := -1, gone := false } = (0, d1) ∧ openE d1 = 0 ∧ (openP d1).gen = 1 ∧
    HP (openP d1) 6 100 ∧ putP (openP d1) 7 [97] = (2, 0, p1) ∧ HP p1 6 100 ∧ freeL p1.pages = 3 ∧ commitP p1 [114] = (0, p2) ∧ HP p2 6 100 ∧ dropP p2 2 = (0, p3) ∧ HP p3 6 100 ∧ freeL p3.pages = 3 ∧ commitP p3 [115] = (0, p4) ∧ HP p4 6 100 ∧
    freeL p4.pages = 4 ∧ p4.gen = 3 ∧ p4.root = [115] := by
  obtain ⟨d1, a1, a2, a3, a4⟩ := HP.begin (Hl.new 6 (by omega) (by omega)) (by omega)
  have H0 : HP (openP d1) 6 5 := ⟨by rw [a3]; exact a4, by rw [a3], by rw [a3]; simp, by omega⟩
  rw [a3] at H0
  obtain ⟨d2, b1, b2, b3⟩ := H0.put 7 [97] 2 (by omega) (by show 1 + 1 ≤ _; omega) (by simp) (by rfl) (by omega)
  have H1 : HP { d := d2, gen := 1, root := [], pages := [(0,0),(0,0),(2,0),(0,0),(0,0),(0,0)], pins := [], dead := false, ops := 0 } 6 6 := ⟨b2, rfl, rfl, by omega⟩
  obtain ⟨d3, c1, c2, c3, c4⟩ := H1.commit [114] (by show 1 + 1 ≤ _; omega) (by simp)
  have H2 : HP { d := d3, gen := 2, root := [114], pages := [(0,0),(0,0),(1,0),(0,0),(0,0),(0,0)], pins := [], dead := false, ops := 0 } 6 9 := ⟨c2, rfl, rfl, by omega⟩
  have e3 := H2.drop1 2 0 (by omega) (by omega) rfl
  have H3 : HP { d := d3, gen := 2, root := [114], pages := [(0,0),(0,0),(3,0),(0,0),(0,0),(0,0)], pins := [], dead := false, ops := 0 } 6 9 := ⟨c2, rfl, rfl, by omega⟩
  obtain ⟨d5, f1, f2, f3, f4⟩ := H3.commit [115] (by show 2 + 1 ≤ _; omega) (by simp)
  have H4 : HP { d := d5, gen := 3, root := [115], pages := [(0,0),(0,0),(0,0),(0,0),(0,0),(0,0)], pins := [], dead := false, ops := 0 } 6 12 := ⟨f2, rfl, rfl, by omega⟩
  refine ⟨d1, { d := d2, gen := 1, root := [], pages := [(0,0),(0,0),(2,0),(0,0),(0,0),(0,0)], pins := [], dead := false, ops := 0 }, { d := d3, gen := 2, root := [114], pages := [(0,0),(0,0),(1,0),(0,0),(0,0),(0,0)], pins := [], dead := false, ops := 0 }, { d := d3, gen := 2, root := [114], pages := [(0,0),(0,0),(3,0),(0,0),(0,0),(0,0)], pins := [], dead := false, ops := 0 }, { d := d5, gen := 3, root := [115], pages := [(0,0),(0,0),(0,0),(0,0),(0,0),(0,0)], pins := [], dead := false, ops := 0 }, a1, a2, ?_⟩
  rw [a3]
  refine ⟨rfl, H0.up (by omega), b1, H1.up (by omega), rfl, c1.trans ?_, H2.up (by omega), e3, H3.up (by omega), rfl, f1.trans ?_, H4.up (by omega), rfl, rfl, rfl⟩
  · rfl
  · simp [settleP, cmF, setl]

end Go.Proofs.Ytadhibemadgcoaa
