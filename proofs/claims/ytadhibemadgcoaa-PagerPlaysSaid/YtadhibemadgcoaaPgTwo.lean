/- Pagers with power: plain laws; the law's begun. Conditions: as each theorem says. -/
import Derived.Test.YtadhibemadgcoaaPgOne
import Derived.Maps.AppendAt
import Derived.BigQuiet
namespace Go.Proofs.Ytadhibemadgcoaa

section
open Go.RowKit

/-- A disk of n sectors with power and without a fuse, behind at most k steps. -/
structure Hl (d : Dk) (n k : Nat) : Prop where
  len : d.L.length = n
  fuse : d.fuse < 0
  gone : d.gone = false
  sane : Sane d
  steps : d.steps ≤ k
  wl : d.wait.length ≤ k
/-- What is read of a sector. -/
def cont (d : Dk) (i : Nat) : List UInt8 := readW d.wait i (d.L.getD i [])
theorem Hl.go {d : Dk} {n k : Nat} (h : Hl d n k) : ¬ (d.gone = true ∨ d.fuse = 0) := fun x => by
  have h1 := h.fuse
  rcases x with x | x
  · rw [h.gone] at x; cases x
  · omega
theorem Hl.stp {d : Dk} {n k : Nat} (h : Hl d n k) : (Ytadhibemadgcoaa.stepY d).fuse < 0 ∧ (Ytadhibemadgcoaa.stepY d).gone = false ∧ (Ytadhibemadgcoaa.stepY d).steps ≤ k + 1 := by
  refine ⟨?_, h.gone, ?_⟩
  · show (if 0 < d.fuse then d.fuse - 1 else d.fuse) < 0
    have := h.fuse
    rw [if_neg (by omega)]; exact this
  · show d.steps + 1 ≤ _; have := h.steps; omega
theorem Hl.up {d : Dk} {n k m : Nat} (h : Hl d n k) (hm : k ≤ m) : Hl d n m := ⟨h.len, h.fuse, h.gone, h.sane, Nat.le_trans h.steps hm, Nat.le_trans h.wl hm⟩
theorem Hl.write {d : Dk} {n k : Nat} (h : Hl d n k) (i : Nat) (b : List UInt8) (hi : i < n) (hb : b.length = 512) :
    (writeD d (i : Int) b).1 = 0 ∧ Hl (writeD d (i : Int) b).2 n (k + 1) ∧ ∀ j, cont (writeD d (i : Int) b).2 j = if j = i then b else cont d j := by
  have e : writeD d (i : Int) b = (0, { stepY d with wait := d.wait ++ [(i, b)] }) := by
    rw [writeD, if_neg (by omega), if_neg (by rw [h.len]; omega), stepD_yes h.go, if_neg (by simp)]; rfl
  rw [e]
  obtain ⟨h1, h2, h3⟩ := h.stp
  refine ⟨rfl, ⟨h.len, h1, h2, ⟨h.sane.n1, h.sane.n2, fun x hx => ?_, h.sane.secs⟩, h3, by show (d.wait ++ [_]).length ≤ _; rw [List.length_append]; have := h.wl; simp; omega⟩, fun j => ?_⟩
  · rcases List.mem_append.1 hx with hx | hx
    · exact h.sane.wait x hx
    · simp at hx; subst hx; exact ⟨hb, by show i < d.L.length; rw [h.len]; exact hi⟩
  · show readW (d.wait ++ [(i, b)]) j (d.L.getD j []) = _
    rw [readW_snoc]
    by_cases hj : j = i
    · rw [if_pos hj, if_pos hj.symm]
    · rw [if_neg hj, if_neg (fun e => hj e.symm)]; rfl
theorem Hl.flush {d : Dk} {n k : Nat} (h : Hl d n k) : (flushD d).1 = 0 ∧ Hl (flushD d).2 n (k + 1) ∧ (flushD d).2.wait = [] ∧ ∀ j, j < n → cont (flushD d).2 j = cont d j := by
  have e : flushD d = (0, { stepY d with L := applyW d.wait d.L, wait := [] }) := by rw [flushD, stepD_yes h.go, if_neg (by simp)]
  rw [e]
  obtain ⟨h1, h2, h3⟩ := h.stp
  refine ⟨rfl, ⟨by show (applyW d.wait d.L).length = n; rw [applyW_length]; exact h.len, h1, h2, ⟨by show 1 ≤ (applyW d.wait d.L).length; rw [applyW_length]; exact h.sane.n1, by show (applyW d.wait d.L).length ≤ 4096; rw [applyW_length]; exact h.sane.n2, by simp, applyW_secs _ (fun x hx => (h.sane.wait x hx).1) _ h.sane.secs⟩, h3, Nat.zero_le _⟩, rfl, fun j hj => ?_⟩
  show readW [] j ((applyW d.wait d.L).getD j []) = readW d.wait j (d.L.getD j [])
  exact (readW_apply d.wait j d.L (by rw [h.len]; exact hj)).symm
theorem Hl.read {d : Dk} {n k : Nat} (h : Hl d n k) (i : Nat) (hi : i < n) : readD d (i : Int) = (0, cont d i) := by
  rw [readD, if_neg (by rw [h.len]; omega), if_neg (by rw [h.gone]; simp)]; rfl
theorem Hl.new (n : Nat) (h1 : 1 ≤ n) (h2 : n ≤ 4096) : Hl { L := List.replicate n (zeros 512), wait := [], steps := 0, fuse := -1, gone := false } n 0 :=
  ⟨by simp, by simp, rfl, ⟨by simpa using h1, by simpa using h2, by simp, fun l hl => by rw [(List.mem_replicate.1 hl).2]; exact zeros_length _⟩, Nat.le_refl _, Nat.le_refl _⟩
theorem cont_new (n i : Nat) (hi : i < n) : cont { L := List.replicate n (zeros 512), wait := [], steps := 0, fuse := -1, gone := false } i = zeros 512 := by
  show (List.replicate n (zeros 512)).getD i [] = _
  rw [List.getD, List.getElem?_replicate, if_pos hi]; rfl

theorem Hl.root {d : Dk} {n k : Nat} (h : Hl d n k) (g : Nat) (b : List UInt8) (hn : 4 ≤ n) (hb : b.length = 512) :
    (rootW d g b).1 = 0 ∧ Hl (rootW d g b).2 n (k + 3) ∧ (rootW d g b).2.wait = [] ∧ ∀ j, j < n → cont (rootW d g b).2 j = if j = g % 2 then b else cont d j := by
  obtain ⟨a1, a2, a3, a4⟩ := h.flush
  obtain ⟨b1, b2, b3⟩ := a2.write (g % 2) b (by omega) hb
  obtain ⟨c1, c2, c3, c4⟩ := b2.flush
  have e : rootW d g b = flushD (writeD (flushD d).2 ((g % 2 : Nat) : Int) b).2 := by
    unfold rootW; rw [if_neg (by rw [a1]; simp), if_neg (by rw [b1]; simp)]
  rw [e]
  refine ⟨c1, c2, c3, fun j hj => ?_⟩
  rw [c4 j hj, b3 j]
  by_cases hjg : j = g % 2
  · rw [if_pos hjg, if_pos hjg]
  · rw [if_neg hjg, if_neg hjg, a4 j hj]

/-- Format. -/
theorem Hl.format {d : Dk} {n k : Nat} (h : Hl d n k) (hn : 4 ≤ n) :
    (formatD d).1 = 0 ∧ Hl (formatD d).2 n (k + 5) ∧ (formatD d).2.wait = [] ∧ ∀ j, j < n → cont (formatD d).2 j = if j = 0 then zeros 512 else if j = 1 then rootB 1 [] else cont d j := by
  have e0 : srootL 1 [] = rootB 1 [] := rfl
  obtain ⟨a1, a2, a3⟩ := h.write 0 (zeros 512) (by omega) (zeros_length _)
  obtain ⟨b1, b2, b3⟩ := a2.write 1 (zeros 512) (by omega) (zeros_length _)
  obtain ⟨c1, c2, c3, c4⟩ := b2.flush
  obtain ⟨d1, d2, d3⟩ := c2.write 1 (rootB 1 []) (by omega) (by rw [rootB_length])
  obtain ⟨f1, f2, f3, f4⟩ := d2.flush
  have e : formatD d = flushD (writeD (flushD (writeD (writeD d ((0 : Nat) : Int) (zeros 512)).2 ((1 : Nat) : Int) (zeros 512)).2).2 ((1 : Nat) : Int) (rootB 1 [])).2 := by
    unfold formatD
    rw [if_neg (by rw [h.len]; omega), e0]
    unfold fmtL
    have a1' : (writeD d 0 (zeros 512)).1 = 0 := a1
    have b1' : (writeD (writeD d 0 (zeros 512)).2 1 (zeros 512)).1 = 0 := b1
    have c1' : (flushD (writeD (writeD d 0 (zeros 512)).2 1 (zeros 512)).2).1 = 0 := c1
    have d1' : (writeD (flushD (writeD (writeD d 0 (zeros 512)).2 1 (zeros 512)).2).2 1 (rootB 1 [])).1 = 0 := d1
    have f1' : (flushD (writeD (flushD (writeD (writeD d 0 (zeros 512)).2 1 (zeros 512)).2).2 1 (rootB 1 [])).2).1 = 0 := f1
    simp only [chD, a1', b1', c1', d1', f1', ne_eq, not_true_eq_false, if_false]
    generalize flushD (writeD (flushD (writeD (writeD d 0 (zeros 512)).2 1 (zeros 512)).2).2 1 (rootB 1 [])).2 = R at f1' ⊢
    obtain ⟨r1, r2⟩ := R
    cases f1'; rfl
  rw [e]
  refine ⟨f1, f2, f3, fun j hj => ?_⟩
  rw [f4 j hj, d3 j]
  by_cases h1 : j = 1
  · rw [if_pos h1, if_neg (by omega), if_pos h1]
  · rw [if_neg h1, c4 j hj, b3 j, if_neg h1, a3 j]
    by_cases h0 : j = 0
    · rw [if_pos h0, if_pos h0]
    · rw [if_neg h0, if_neg h0, if_neg h1]

theorem rootL_zeros : rootL (zeros 512) = none := by
  unfold rootL
  rw [if_neg]
  intro h
  have h1 := h.2.2.1.1
  have e : rdl ((zeros 512).take 8) = 0 := by rw [zeros, List.take_replicate]; rfl
  omega

/-- What Open finds on a disk with these two roots. -/
theorem Hl.open_ {d : Dk} {n k : Nat} (h : Hl d n k) (hn : 4 ≤ n) : openE d = (if (pickR 1 (cont d 1) (pickR 0 (cont d 0) (0, []))).1 = 0 then 10 else 0) ∧ accR d 2 = pickR 1 (cont d 1) (pickR 0 (cont d 0) (0, [])) := by
  have e : accR d 2 = pickR 1 (cont d 1) (pickR 0 (cont d 0) (0, [])) := by
    show pickR 1 (readD d ((1 : Nat) : Int)).2 (pickR 0 (readD d ((0 : Nat) : Int)).2 (0, [])) = _
    rw [h.read 1 (by omega), h.read 0 (by omega)]
  refine ⟨?_, e⟩
  unfold openE
  rw [if_neg (by rw [h.len]; omega), if_neg (by rw [h.gone]; simp), e]
end

section
open Go.RowKit

/-- A pager of n pages on a disk with power. -/
structure HP (p : Pg) (n k : Nat) : Prop where
  hl : Hl p.d n k
  dead : p.dead = false
  len : p.pages.length = n
  n4 : 4 ≤ n
theorem HP.up {p : Pg} {n k m : Nat} (h : HP p n k) (hm : k ≤ m) : HP p n m := ⟨h.hl.up hm, h.dead, h.len, h.n4⟩

theorem sealE_ok {kind gen : Int} {n : Nat} (h1 : 0 ≤ kind) (h2 : kind ≤ 255) (h3 : 0 ≤ gen) (h4 : gen ≤ 281474976710655) (h5 : n ≤ 492) : sealE kind gen n = 0 := by
  unfold sealE; rw [if_neg (by omega), if_neg (by omega)]
theorem srootE_ok {gen : Int} {n : Nat} (h3 : 1 ≤ gen) (h4 : gen ≤ 4611686018427387904) (h5 : n ≤ 490) : srootE gen n = 0 := by
  unfold srootE; rw [if_neg (by omega), if_neg (by omega)]
theorem srootL_ok {gen : Nat} {s : List UInt8} (h3 : 1 ≤ gen) (h4 : gen ≤ 4611686018427387904) (h5 : s.length ≤ 490) : srootL (gen : Int) s = rootB gen s := by
  unfold srootL; rw [if_pos (srootE_ok (by omega) (by omega) h5)]; rfl
theorem sealL_ok {kind gen : Nat} {s : List UInt8} (h2 : kind ≤ 255) (h4 : gen ≤ 281474976710655) (h5 : s.length ≤ 492) : sealL (kind : Int) (gen : Int) s = sealB kind gen s := by
  unfold sealL; rw [if_pos (sealE_ok (by omega) (by omega) (by omega) (by omega) h5)]; rfl

/-- Put where room is. -/
theorem HP.put {p : Pg} {n k : Nat} (h : HP p n k) (kind : Nat) (s : List UInt8) (j : Nat) (hk : kind ≤ 255) (hg : p.gen + 1 ≤ 281474976710655) (hs : s.length ≤ 492) (hj : ffL p.pages = j) (hjn : j < n) :
    ∃ d', putP p (kind : Int) s = (j, 0, { p with d := d', pages := p.pages.set j (2, (p.pages.getD j (0, 0)).2) }) ∧ Hl d' n (k + 1) ∧ ∀ i, cont d' i = if i = j then sealB kind (p.gen + 1) s else cont p.d i := by
  have e1 : sealL (kind : Int) ((p.gen : Int) + 1) s = sealB kind (p.gen + 1) s := by
    have := sealL_ok (kind := kind) (gen := p.gen + 1) (s := s) hk hg hs
    rw [← this]; congr 1
  obtain ⟨a1, a2, a3⟩ := h.hl.write j (sealB kind (p.gen + 1) s) hjn (sealB_length _ _ _)
  refine ⟨_, ?_, a2, a3⟩
  unfold putP
  rw [if_neg (by rw [h.dead]; simp), if_neg (by rw [sealE_ok (by omega) (by omega) (by omega) (by omega) hs]; simp), hj, if_neg (by rw [h.len]; omega), e1, if_neg (by rw [a1]; simp)]
/-- Put where no room is. -/
theorem HP.full {p : Pg} {n k : Nat} (h : HP p n k) (kind : Nat) (s : List UInt8) (hk : kind ≤ 255) (hg : p.gen + 1 ≤ 281474976710655) (hs : s.length ≤ 492) (hj : ffL p.pages = n) :
    putP p (kind : Int) s = (0, 6, p) := by
  unfold putP
  rw [if_neg (by rw [h.dead]; simp), if_neg (by rw [sealE_ok (by omega) (by omega) (by omega) (by omega) hs]; simp), hj, if_pos h.len.symm]
/-- Commit. -/
theorem HP.commit {p : Pg} {n k : Nat} (h : HP p n k) (s : List UInt8) (hg : p.gen + 1 ≤ 4611686018427387904) (hs : s.length ≤ 490) :
    ∃ d', commitP p s = (0, settleP { p with d := d', gen := p.gen + 1, root := s, pages := p.pages.map (cmF (p.gen + 1)) }) ∧ Hl d' n (k + 3) ∧ d'.wait = [] ∧ ∀ i, i < n → cont d' i = if i = (p.gen + 1) % 2 then rootB (p.gen + 1) s else cont p.d i := by
  have e1 : srootL ((p.gen : Int) + 1) s = rootB (p.gen + 1) s := by
    have := srootL_ok (gen := p.gen + 1) (s := s) (by omega) hg hs
    rw [← this]; congr 1
  obtain ⟨a1, a2, a3, a4⟩ := h.hl.root (p.gen + 1) (rootB (p.gen + 1) s) h.n4 (rootB_length _ _)
  refine ⟨_, ?_, a2, a3, a4⟩
  unfold commitP
  rw [if_neg (by rw [h.dead]; simp), if_neg (by rw [srootE_ok (by omega) (by omega) hs]; simp), e1, if_neg (by rw [a1]; simp)]
/-- A pager that is opened anew on a formatted disk. -/
theorem HP.begin {d : Dk} {n k : Nat} (h : Hl d n k) (hn : 4 ≤ n) : ∃ d', formatD d = (0, d') ∧ openE d' = 0 ∧ openP d' = { d := d', gen := 1, root := [], pages := List.replicate n (0, 0), pins := [], dead := false, ops := 0 } ∧ Hl d' n (k + 5) := by
  obtain ⟨a1, a2, a3, a4⟩ := h.format hn
  have c0 := a4 0 (by omega)
  have c1 := a4 1 (by omega)
  rw [if_pos rfl] at c0
  rw [if_neg (by omega), if_pos rfl] at c1
  obtain ⟨b1, b2⟩ := a2.open_ hn
  have e : pickR 1 (cont (formatD d).2 1) (pickR 0 (cont (formatD d).2 0) (0, [])) = (1, []) := by
    rw [c0, c1]
    have e0 : pickR 0 (zeros 512) (0, []) = (0, []) := by unfold pickR; rw [rootL_zeros]
    rw [e0]
    unfold pickR
    rw [root_seal 1 [] (by omega) (by omega) (by simp)]
    rfl
  rw [e] at b1 b2
  refine ⟨(formatD d).2, Prod.ext a1 rfl, by rw [b1]; rfl, ?_, a2⟩
  unfold openP
  rw [b2]
  unfold newP
  rw [a2.len]

/-- Drop of a page that is committed. -/
theorem HP.drop1 {p : Pg} {n k : Nat} (h : HP p n k) (j : Nat) (g : Nat) (h2 : 2 ≤ j) (hj : j < n) (hx : p.pages[j]? = some (1, g)) :
    dropP p (j : Int) = (0, { p with pages := p.pages.set j (3, g) }) := by
  unfold dropP
  have hh : hasP p (j : Int) = true := by unfold hasP; rw [h.len]; simp; omega
  rw [if_neg (by rw [h.dead]; simp), if_pos hh, Int.toNat_natCast, hx]
  simp

/-- The example's pages and answers. -/
theorem alive_pure : ∃ d1 p1 p2 p3 p4, formatD { L := List.replicate 6 (zeros 512), wait := [], steps := 0, fuse := -1, gone := false } = (0, d1) ∧ openE d1 = 0 ∧ (openP d1).gen = 1 ∧
    HP (openP d1) 6 100 ∧ putP (openP d1) 7 [97] = (2, 0, p1) ∧ HP p1 6 100 ∧ freeL p1.pages = 3 ∧ commitP p1 [114] = (0, p2) ∧ HP p2 6 100 ∧ dropP p2 2 = (0, p3) ∧ HP p3 6 100 ∧ freeL p3.pages = 3 ∧ commitP p3 [115] = (0, p4) ∧ HP p4 6 100 ∧
    freeL p4.pages = 4 ∧ p4.gen = 3 ∧ p4.root = [115] := by
  obtain ⟨d1, a1, a2, a3, a4⟩ := HP.begin (Hl.new 6 (by omega) (by omega)) (by omega)
  have H0 : HP (openP d1) 6 5 := ⟨by rw [a3]; exact a4, by rw [a3], by rw [a3]; simp, by omega⟩
  rw [a3] at H0
  obtain ⟨d2, b1, b2, b3⟩ := H0.put 7 [97] 2 (by omega) (by show 1 + 1 ≤ _; omega) (by simp) (by rfl) (by omega)
  have H1 : HP { d := d2, gen := 1, root := [], pages := [(0,0),(0,0),(2,0),(0,0),(0,0),(0,0)], pins := [], dead := false, ops := 0 } 6 6 := ⟨b2, rfl, rfl, by omega⟩
  obtain ⟨d3, c1, c2, c3, c4⟩ := H1.commit [114] (by show 1 + 1 ≤ _; omega) (by simp)
  have H2 : HP { d := d3, gen := 2, root := [114], pages := [(0,0),(0,0),(1,0),(0,0),(0,0),(0,0)], pins := [], dead := false, ops := 0 } 6 9 := ⟨c2, rfl, rfl, by omega⟩
  have e3 := H2.drop1 2 0 (by omega) (by omega) rfl
  have H3 : HP { d := d3, gen := 2, root := [114], pages := [(0,0),(0,0),(3,0),(0,0),(0,0),(0,0)], pins := [], dead := false, ops := 0 } 6 9 := ⟨c2, rfl, rfl, by omega⟩
  obtain ⟨d5, f1, f2, f3, f4⟩ := H3.commit [115] (by show 2 + 1 ≤ _; omega) (by simp)
  have H4 : HP { d := d5, gen := 3, root := [115], pages := [(0,0),(0,0),(0,0),(0,0),(0,0),(0,0)], pins := [], dead := false, ops := 0 } 6 12 := ⟨f2, rfl, rfl, by omega⟩
  refine ⟨d1, { d := d2, gen := 1, root := [], pages := [(0,0),(0,0),(2,0),(0,0),(0,0),(0,0)], pins := [], dead := false, ops := 0 }, { d := d3, gen := 2, root := [114], pages := [(0,0),(0,0),(1,0),(0,0),(0,0),(0,0)], pins := [], dead := false, ops := 0 }, { d := d3, gen := 2, root := [114], pages := [(0,0),(0,0),(3,0),(0,0),(0,0),(0,0)], pins := [], dead := false, ops := 0 }, { d := d5, gen := 3, root := [115], pages := [(0,0),(0,0),(0,0),(0,0),(0,0),(0,0)], pins := [], dead := false, ops := 0 }, a1, a2, ?_⟩
  rw [a3]
  refine ⟨rfl, H0.up (by omega), b1, H1.up (by omega), rfl, c1.trans ?_, H2.up (by omega), e3, H3.up (by omega), rfl, f1.trans ?_, H4.up (by omega), rfl, rfl, rfl⟩
  · rfl
  · simp [settleP, cmF, setl]
end

section
open Go.RowKit

/-- The pager p, its blocks Q, all new since w0. -/
def PZ (w0 w : World) (pp dp : Nat) (p : Pg) (Q : Nat → Prop) : Prop :=
  ∃ gb mb M F O, PgX w pp dp gb mb p M F O ∧ (∀ k, F k → Q k) ∧ (∀ k, O k → Q k) ∧ (∀ k, Q k → w0.heap.size ≤ k ∧ k < w.heap.size) ∧ Ch (fun _ => False) w0 w
def ZPost (w0 w : World) (pp dp : Nat) (p : Pg) (Q : Nat → Prop) (w' : World) : Prop := ∃ Q', PZ w0 w' pp dp p Q' ∧ Fresh w Q Q' ∧ Ch Q w w'
theorem ZPost.mk' {w0 w w' : World} {pp dp gb mb : Nat} {p p' : Pg} {Q F O M' F' : Nat → Prop} (hq : PZ w0 w pp dp p Q) (hF : ∀ k, F k → Q k) (hO : ∀ k, O k → Q k) (hx : PgX w' pp dp gb mb p' M' F' O) (hf : Fresh w F F') (hc : Ch Q w w') : ZPost w0 w pp dp p' Q w' := by
  obtain ⟨_, _, _, _, _, _, _, _, h4, h5⟩ := hq
  have hlt := (disk_ltF hx.2.1).1
  refine ⟨fun k => Q k ∨ (w.heap.size ≤ k ∧ k < w'.heap.size), ⟨gb, mb, M', F', O, hx, fun k hk => ?_, fun k hk => .inl (hO k hk), fun k hk => ?_, h5.then hc (fun i hi h => by have := h4 i h; omega)⟩, fun k hk => ?_, hc⟩
  · rcases hf k hk with h | h
    · exact .inl (hF k h)
    · exact .inr ⟨h, hlt k hk⟩
  · have := hc.size
    have := h5.size
    rcases hk with h | h
    · have := h4 k h; omega
    · omega
  · rcases hk with h | h
    · exact .inl h
    · exact .inr h.1
theorem PZ.at_ {w0 w : World} {pp dp : Nat} {p : Pg} {Q : Nat → Prop} (h : PZ w0 w pp dp p Q) : ∃ M F O, PgAt w pp dp p M F O := by
  obtain ⟨gb, mb, M, F, O, h1, _⟩ := h; exact ⟨M, F, O, gb, mb, h1⟩
theorem PZ.base {w0 w : World} {pp dp : Nat} {p : Pg} {Q : Nat → Prop} (h : PZ w0 w pp dp p Q) : Ch (fun _ => False) w0 w := by
  obtain ⟨gb, mb, M, F, O, _, _, _, _, h5⟩ := h; exact h5
theorem PZ.lt {w0 w : World} {pp dp : Nat} {p : Pg} {Q : Nat → Prop} (h : PZ w0 w pp dp p Q) : ∀ k, Q k → w0.heap.size ≤ k ∧ k < w.heap.size := by
  obtain ⟨gb, mb, M, F, O, _, _, _, h4, _⟩ := h; exact h4
/-- Other blocks turn. -/
theorem PZ.ch {w0 w w' : World} {pp dp : Nat} {p : Pg} {Q S : Nat → Prop} (h : PZ w0 w pp dp p Q) (hc : Ch S w w') (hs : ∀ k, Q k → ¬ S k) (h0 : ∀ k, k < w0.heap.size → ¬ S k) : PZ w0 w' pp dp p Q := by
  obtain ⟨gb, mb, M, F, O, h1, h2, h3, h4, h5⟩ := h
  refine ⟨gb, mb, M, F, O, h1.ch hc (fun k hk => hs k (h2 k hk)) (fun k hk => hs k (h3 k hk)), h2, h3, fun k hk => ⟨(h4 k hk).1, Nat.lt_of_lt_of_le (h4 k hk).2 hc.size⟩, h5.then hc (fun i hi h => h0 i hi h)⟩
theorem ZPost.trans {w0 w1 w2 w3 : World} {pp dp : Nat} {p : Pg} {Q Q1 : Nat → Prop} (h1 : Fresh w1 Q Q1) (hc : Ch Q w1 w2) (h : ZPost w0 w2 pp dp p Q1 w3) : ZPost w0 w1 pp dp p Q w3 := by
  obtain ⟨Q2, k1, k2, k3⟩ := h
  refine ⟨Q2, k1, fun k hk => ?_, hc.then k3 (fun i hi h => ?_)⟩
  · rcases k2 k hk with h | h
    · exact h1 k h
    · have := hc.size; exact .inr (by omega)
  · rcases h1 i h with h | h
    · exact h
    · omega
theorem PZ.post {w0 w w' : World} {pp dp : Nat} {p : Pg} {Q : Nat → Prop} (h : PZ w0 w pp dp p Q) (hc : Ch (fun _ => False) w w') : ZPost w0 w pp dp p Q w' :=
  ⟨Q, h.ch hc (fun _ _ h => h) (fun _ _ h => h), Fresh.refl _ _, hc.mono (fun _ _ h => h.elim)⟩

section
variable {w0 : World} {pp dp : Nat} {p : Pg} {Q : Nat → Prop} {n k : Nat}
theorem put_z (kind : Int) (s : ByteArray) (w : World) (h : PZ w0 w pp dp p Q) (hp : HP p n k) (hk : k ≤ 900000) :
    Calls Try.prog 57 #[.pointer (some ⟨pp, 0, none⟩), .int .i64 kind, .string s] w fun e w' => e = .returned (.tuple #[.int .i64 ((putP p kind s.data.toList).1 : Nat), .int .i64 ((putP p kind s.data.toList).2.1 : Nat)]) ∧ ZPost w0 w pp dp (putP p kind s.data.toList).2.2 Q w' := by
  obtain ⟨gb, mb, M, F, O, h1, h2, h3, h4, h5⟩ := id h
  refine (put_any2 kind s w h1 (by have := hp.hl.steps; omega) (by have := hp.hl.wl; omega)).mono ?_
  rintro e w' ⟨rfl, M', F', k1, k2, k3, k4⟩
  exact ⟨rfl, ZPost.mk' h h2 h3 k1 k3 (k4.mono fun i _ hi => hi.elim (fun hi => h2 i ((disk_ltF h1.2.1).2 i hi)) (h3 i))⟩
theorem commit_z (s : ByteArray) (w : World) (h : PZ w0 w pp dp p Q) (hp : HP p n k) (hk : k ≤ 900000) :
    Calls Try.prog 58 #[.pointer (some ⟨pp, 0, none⟩), .string s] w fun e w' => e = .returned (.int .i64 ((commitP p s.data.toList).1 : Nat)) ∧ ZPost w0 w pp dp (commitP p s.data.toList).2 Q w' := by
  obtain ⟨gb, mb, M, F, O, h1, h2, h3, h4, h5⟩ := id h
  refine (commit_any s w h1 (by have := hp.hl.steps; omega) (by have := hp.hl.wl; omega)).mono ?_
  rintro e w' ⟨rfl, M', F', k1, k2, k3, k4⟩
  exact ⟨rfl, ZPost.mk' h h2 h3 k1 k3 (k4.mono fun i _ hi => hi.elim (fun hi => h2 i ((disk_ltF h1.2.1).2 i hi)) (h3 i))⟩
theorem drop_z (j : Int) (w : World) (h : PZ w0 w pp dp p Q) :
    Calls Try.prog 59 #[.pointer (some ⟨pp, 0, none⟩), .int .i64 j] w fun e w' => e = .returned (.int .i64 ((dropP p j).1 : Nat)) ∧ ZPost w0 w pp dp (dropP p j).2 Q w' := by
  obtain ⟨gb, mb, M, F, O, h1, h2, h3, h4, h5⟩ := id h
  refine (drop_any j w h1).mono ?_
  rintro e w' ⟨rfl, k1, k4⟩
  exact ⟨rfl, ZPost.mk' h h2 h3 k1 (Fresh.refl _ _) (k4.mono fun i _ hi => h3 i hi)⟩
theorem abort_z (w : World) (h : PZ w0 w pp dp p Q) :
    Calls Try.prog 61 #[.pointer (some ⟨pp, 0, none⟩)] w fun e w' => e = .returned (.tuple #[]) ∧ ZPost w0 w pp dp (abortP p) Q w' := by
  obtain ⟨gb, mb, M, F, O, h1, h2, h3, h4, h5⟩ := id h
  refine (abort_any w h1).mono ?_
  rintro e w' ⟨rfl, k1, k4⟩
  exact ⟨rfl, ZPost.mk' h h2 h3 k1 (Fresh.refl _ _) (k4.mono fun i _ hi => h3 i hi)⟩
theorem read_z (j : Int) (w : World) (h : PZ w0 w pp dp p Q) (hp : HP p n k) (hk : k ≤ 900000) :
    Calls Try.prog 64 #[.pointer (some ⟨pp, 0, none⟩), .int .i64 j] w fun e w' => e = .returned (.tuple #[.int .i64 ((readP p j).1.1 : Nat), .string ⟨(readP p j).1.2.1.toArray⟩, .int .i64 ((readP p j).1.2.2 : Nat)]) ∧ ZPost w0 w pp dp (readP p j).2 Q w' := by
  obtain ⟨gb, mb, M, F, O, h1, h2, h3, h4, h5⟩ := id h
  refine (pread_any j w h1 (by have := hp.hl.wl; omega)).mono ?_
  rintro e w' ⟨rfl, k1, k4⟩
  exact ⟨rfl, ZPost.mk' h h2 h3 k1 (Fresh.refl _ _) (k4.mono fun i _ hi => h3 i hi)⟩
theorem free_z (w : World) (h : PZ w0 w pp dp p Q) :
    Calls Try.prog 56 #[.pointer (some ⟨pp, 0, none⟩)] w fun e w' => e = .returned (.int .i64 (freeL p.pages : Int)) ∧ ZPost w0 w pp dp p Q w' := by
  obtain ⟨gb, mb, M, F, O, h1, h2, h3, h4, h5⟩ := id h
  refine (free_any w h1).mono ?_
  rintro e w' ⟨rfl, k4⟩
  exact ⟨rfl, h.post k4⟩
theorem gen_z (w : World) (h : PZ w0 w pp dp p Q) : Calls Try.prog 62 #[.pointer (some ⟨pp, 0, none⟩)] w fun e w' => e = .returned (.int .i64 (p.gen : Int)) ∧ w = w' := by
  obtain ⟨M, F, O, h1⟩ := h.at_; exact gen_any w h1
theorem root_z (w : World) (h : PZ w0 w pp dp p Q) : Calls Try.prog 63 #[.pointer (some ⟨pp, 0, none⟩)] w fun e w' => e = .returned (.string ⟨p.root.toArray⟩) ∧ w = w' := by
  obtain ⟨M, F, O, h1⟩ := h.at_; exact root_any w h1
end

/-- A formatted disk, all of whose blocks are new. -/
def DZ (w0 w : World) (dp : Nat) (d : Dk) : Prop := ∃ M F, DiskAt w dp d M F ∧ (∀ k, F k → w0.heap.size ≤ k) ∧ Ch (fun _ => False) w0 w
theorem open_z {w0 : World} {dp : Nat} {d : Dk} {n k : Nat} (w : World) (h : DZ w0 w dp d) (hd : Hl d n k) (hk : k ≤ 900000) (he : openE d = 0) :
    Calls Try.prog 54 #[.pointer (some ⟨dp, 0, none⟩)] w fun e w' => ∃ pp Q, e = .returned (.tuple #[.pointer (some ⟨pp, 0, none⟩), .int .i64 0]) ∧ PZ w0 w' pp dp (openP d) Q := by
  obtain ⟨M, F, h1, h2, h3⟩ := h
  refine (popen_any w h1 (by have := hd.wl; omega)).mono ?_
  rintro e w' ⟨c1, ⟨x, _⟩ | ⟨_, pp, gb, mb, O, rfl, k1, k2⟩⟩
  · exact absurd he x
  · have hlt := (disk_ltF h1).1
    have hO := k1.2.2.2.2.2.2
    refine ⟨pp, fun k => F k ∨ O k, rfl, gb, mb, M, F, O, k1, fun _ h => .inl h, fun _ h => .inr h, fun k hk => ?_, h3.then c1 (fun _ _ h => h)⟩
    have := c1.size
    have := h3.size
    rcases hk with h | h
    · have := h2 k h; have := hlt k h; omega
    · have := k2 k h; have := (hO k h).2; omega
theorem format_z {w0 : World} {dp : Nat} {d : Dk} {n k : Nat} (w : World) (h : DZ w0 w dp d) (hd : Hl d n k) (hn : 4 ≤ n) (hk : k ≤ 800000) :
    Calls Try.prog 53 #[.pointer (some ⟨dp, 0, none⟩)] w fun e w' => e = .returned (.int .i64 ((formatD d).1 : Nat)) ∧ DZ w0 w' dp (formatD d).2 := by
  obtain ⟨M, F, h1, h2, h3⟩ := h
  have e : formatD d = chD (fmtL (srootL 1 [])) d := by unfold formatD; rw [if_neg (by rw [hd.len]; omega)]
  rw [e]
  refine (format_ok w h1 (by rw [hd.len]; exact hn) (by have := hd.steps; omega) (by have := hd.wl; omega)).mono ?_
  rintro e w' ⟨rfl, M', F', k1, k2, k3, k4⟩
  refine ⟨rfl, M', F', k1, fun k hk => ?_, h3.then k4 (fun i hi h => by have := h2 i ((disk_ltF h1).2 i h); omega)⟩
  have := h3.size
  rcases k3 k hk with h | h
  · exact h2 k h
  · omega
end

section
open Go.RowKit

theorem use_none (x : Option Addr) (n c : Nat) (w : World) : Calls Try.prog 69 #[.pointer none, .slice x n c] w fun e w' => e = .returned (.int .i64 1) ∧ w = w' := by
  go_enter Try.func69, Try.ntmps69
  go_wp2_with (go_at_call 98; refine (ready_none _).mono ?_; rintro e w' ⟨rfl, rfl⟩)
  go_ret
  exact ⟨rfl, rfl⟩
/-- New's disk. -/
theorem new_z {w0 : World} (n : Nat) (w : World) (hw : Ch (fun _ => False) w0 w) (h1 : 1 ≤ n) (h2 : n ≤ 4096) :
    Calls Try.prog 41 #[.int .i64 n] w fun e w' => ∃ dp, e = .returned (.tuple #[.pointer (some ⟨dp, 0, none⟩), .int .i64 0]) ∧ DZ w0 w' dp { L := List.replicate n (zeros 512), wait := [], steps := 0, fuse := -1, gone := false } := by
  refine (new_ok n w h1 h2).mono ?_
  rintro e w' ⟨dp, M, rfl, k1, k2, k3⟩
  refine ⟨dp, rfl, M, M, k1, fun k hk => ?_, hw.trans k2⟩
  have := k3 k hk; have := hw.size; omega

set_option maxRecDepth 20000 in
set_option maxHeartbeats 4000000 in
theorem alive3 (w : World) : Calls Try.prog 52 #[] w fun e w' => e = .returned (.bool true) ∧ Ch (fun _ => False) w w' := by
  obtain ⟨d1, p1, p2, p3, p4, a1, a2, a3, a4, b1, b2, b3, c1, c2, e1, e2, e3, f1, f2, f3, f4, f5⟩ := alive_pure
  have hnew := new_z 6 w (Ch.refl _ w) (by omega) (by omega)
  obtain ⟨D0, HD0⟩ : ∃ d, Hid (({ L := List.replicate 6 (zeros 512), wait := [], steps := 0, fuse := -1, gone := false } : Dk) = d) := ⟨_, hid rfl⟩
  have hl0 := Hl.new 6 (by omega) (by omega)
  rw [HD0.out] at hnew hl0 a1
  obtain ⟨P0, HP0⟩ : ∃ p, Hid (openP d1 = p) := ⟨_, hid rfl⟩
  rw [HP0.out] at a3 a4 b1
  have HL0 := hid hl0
  have A1 := hid a1
  have A2 := hid a2
  have A3 := hid a3
  have A4 := hid a4
  have B1 := hid b1
  have B2 := hid b2
  have B3 := hid b3
  have C1 := hid c1
  have C2 := hid c2
  have E1 := hid e1
  have E2 := hid e2
  have E3 := hid e3
  have F1 := hid f1
  have F3 := hid f3
  have F4 := hid f4
  have F5 := hid f5
  have HN := hid hnew
  have HLd : Hid (Hl d1 6 100) := hid (by have := a4.hl; rw [← HP0.out] at this; exact this)
  clear a1 a2 a3 a4 b1 b2 b3 c1 c2 e1 e2 e3 f1 f2 f3 f4 f5 hnew hl0
  go_enter Try.func52, Try.ntmps52
  go_wp2_with fail
  refine HN.out.mono ?_
  rintro e w1 ⟨dp, rfl, hz⟩
  have hfm := format_z w1 hz HL0.out (by omega) (by omega)
  rw [A1.out] at hfm
  have HFM := hid hfm
  clear hz hfm
  go_wp2_with (go_at_call 55; refine (no3_any _ _).mono ?_; rintro e w' ⟨rfl, rfl⟩)
  refine HFM.out.mono ?_
  rintro e w2 ⟨rfl, hz⟩
  have hop := open_z w2 hz HLd.out (by omega) A2.out
  rw [HP0.out] at hop
  have HOP := hid hop
  clear hz hop
  go_wp2_with (go_at_call 55; refine (no3_any _ _).mono ?_; rintro e w' ⟨rfl, rfl⟩)
  refine HOP.out.mono ?_
  rintro e w3 ⟨pp, Q, rfl, hz⟩
  have HG := hid (gen_z w3 hz)
  have hpt := put_z 7 ⟨#[97]⟩ w3 hz A4.out (by omega)
  rw [show (⟨#[97]⟩ : ByteArray).data.toList = [97] from rfl, B1.out] at hpt
  have HPT := hid hpt
  clear hz hpt
  rw [A3.out] at HG
  go_wp2_with (first | (go_at_call 55; refine (no3_any _ _).mono ?_; rintro e w' ⟨rfl, rfl⟩) | (go_at_call 62; refine HG.out.mono ?_; rintro e w' ⟨rfl, rfl⟩))
  refine HPT.out.mono ?_
  rintro e w4 ⟨rfl, Q4, hz, -, -⟩
  have HFR := hid (free_z w4 hz)
  rw [B3.out] at HFR
  clear hz
  go_wp2_with fail
  refine HFR.out.mono ?_
  rintro e w5 ⟨rfl, Q5, hz, -, -⟩
  have hcm := commit_z ⟨#[114]⟩ w5 hz B2.out (by omega)
  rw [show (⟨#[114]⟩ : ByteArray).data.toList = [114] from rfl, C1.out] at hcm
  have HCM := hid hcm
  clear hz hcm
  go_wp2_with fail
  refine HCM.out.mono ?_
  rintro e w6 ⟨rfl, Q6, hz, -, -⟩
  have hdr := drop_z 2 w6 hz
  rw [E1.out] at hdr
  have HDR := hid hdr
  clear hz hdr
  go_wp2_with fail
  refine HDR.out.mono ?_
  rintro e w7 ⟨rfl, Q7, hz, -, -⟩
  have HFR2 := hid (free_z w7 hz)
  rw [E3.out] at HFR2
  clear hz
  go_wp2_with fail
  refine HFR2.out.mono ?_
  rintro e w8 ⟨rfl, Q8, hz, -, -⟩
  have hcm := commit_z ⟨#[115]⟩ w8 hz E2.out (by omega)
  rw [show (⟨#[115]⟩ : ByteArray).data.toList = [115] from rfl, F1.out] at hcm
  have HCM := hid hcm
  clear hz hcm
  go_wp2_with fail
  refine HCM.out.mono ?_
  rintro e w9 ⟨rfl, Q9, hz, -, -⟩
  have HFR3 := hid (free_z w9 hz)
  rw [F3.out] at HFR3
  clear hz
  go_wp2_with (go_at_call 55; refine (no3_any _ _).mono ?_; rintro e w' ⟨rfl, rfl⟩)
  refine HFR3.out.mono ?_
  rintro e w10 ⟨rfl, Q10, hz, -, -⟩
  have HG := hid (gen_z w10 hz)
  have HR := hid (root_z w10 hz)
  rw [F4.out] at HG
  rw [F5.out] at HR
  have HB := hid hz.base
  clear hz
  go_wp2_with (first | (go_at_call 62; refine HG.out.mono ?_; rintro e w' ⟨rfl, rfl⟩) | (go_at_call 63; refine HR.out.mono ?_; rintro e w' ⟨rfl, rfl⟩))
  go_ret
  exact ⟨rfl, HB.out⟩
end

section
open Go.RowKit

theorem ffL_two (a b : Nat × Nat) (L : List (Nat × Nat)) : ffL (a :: b :: L) = 2 + L.findIdx (fun x => x.1 == 0) := rfl
theorem freeL_two (a b : Nat × Nat) (L : List (Nat × Nat)) : freeL (a :: b :: L) = (L.filter fun x => x.1 == 0).length := rfl
theorem find_rep (m : Nat) (x : Nat × Nat) (hx : x.1 ≠ 0) (L : List (Nat × Nat)) : (List.replicate m x ++ L).findIdx (fun x => x.1 == 0) = m + L.findIdx (fun x => x.1 == 0) := by
  induction m with
  | zero => simp
  | succ m ih =>
    have hb : (x.1 == 0) = false := by rw [beq_eq_false_iff_ne]; exact hx
    rw [List.replicate_succ, List.cons_append, List.findIdx_cons, ih, hb]
    show m + _ + 1 = _
    omega
theorem find_rep0 (m : Nat) (x : Nat × Nat) (hx : x.1 ≠ 0) : (List.replicate m x).findIdx (fun x => x.1 == 0) = m := by
  have := find_rep m x hx []; simpa using this
theorem set_rep (m : Nat) (x y z : Nat × Nat) (L : List (Nat × Nat)) : (List.replicate m x ++ y :: L).set m z = List.replicate m x ++ z :: L := by
  rw [List.set_append_right _ _ (by simp)]; simp
theorem rep_snoc (m : Nat) (x : Nat × Nat) (L : List (Nat × Nat)) : List.replicate m x ++ x :: L = List.replicate (m + 1) x ++ L := by
  rw [List.replicate_succ', List.append_assoc]; rfl

/-- m pages of a new pager are put. -/
structure RoomAt (p : Pg) (n m : Nat) : Prop where
  hp : HP p n (1000 + m)
  gen : p.gen = 1
  pins : p.pins = []
  pages : p.pages = (0, 0) :: (0, 0) :: (List.replicate m (2, 0) ++ List.replicate (n - 2 - m) (0, 0))
theorem RoomAt.step {p : Pg} {n m : Nat} (h : RoomAt p n m) (hm : m + 2 < n) (s : List UInt8) (hs : s.length ≤ 492) :
    ∃ p', putP p 3 s = (m + 2, 0, p') ∧ RoomAt p' n (m + 1) := by
  have e0 : n - 2 - m = (n - 2 - (m + 1)) + 1 := by omega
  have e1 : p.pages = (0, 0) :: (0, 0) :: (List.replicate m (2, 0) ++ (0, 0) :: List.replicate (n - 2 - (m + 1)) (0, 0)) := by rw [h.pages, e0, List.replicate_succ]
  have e2 : ffL p.pages = m + 2 := by rw [e1, ffL_two, find_rep _ _ (by simp), List.findIdx_cons]; simp; omega
  obtain ⟨d', k1, k2, k3⟩ := h.hp.put 3 s (m + 2) (by omega) (by rw [h.gen]; omega) hs e2 hm
  have e3 : p.pages.set (m + 2) (2, (p.pages.getD (m + 2) (0, 0)).2) = (0, 0) :: (0, 0) :: (List.replicate (m + 1) (2, 0) ++ List.replicate (n - 2 - (m + 1)) (0, 0)) := by
    have g : (p.pages.getD (m + 2) (0, 0)).2 = 0 := by
      rw [e1]
      show ((List.replicate m (2, 0) ++ (0, 0) :: List.replicate (n - 2 - (m + 1)) (0, 0)).getD m (0, 0)).2 = 0
      rw [List.getD, List.getElem?_append_right (by simp)]; simp
    rw [g, e1]
    show (0, 0) :: (0, 0) :: ((List.replicate m (2, 0) ++ (0, 0) :: List.replicate (n - 2 - (m + 1)) (0, 0)).set m (2, 0)) = _
    rw [set_rep, rep_snoc]
  rw [e3] at k1
  refine ⟨_, k1, ⟨k2, h.hp.dead, ?_, h.hp.n4⟩, h.gen, h.pins, rfl⟩
  simp; have := h.hp.n4; omega
theorem setl_map_nil (l : List (Nat × Nat)) : l.map (setl []) = l.map (fun x => if x.1 = 4 then (0, 0) else x) := by
  congr 1; funext x; unfold setl; simp
theorem RoomAt.last {p : Pg} {n : Nat} (h : RoomAt p n (n - 2)) (hn : n ≤ 60) (s : List UInt8) (hs : s.length ≤ 492) :
    putP p 3 s = (0, 6, p) ∧ freeL p.pages = 0 ∧ ∃ p1 p2 p3 p4, HP p n 5000 ∧ commitP p [97] = (0, p1) ∧ HP p1 n 5000 ∧ dropP p1 2 = (0, p2) ∧ HP p2 n 5000 ∧ putP p2 3 s = (0, 6, p2) ∧ commitP p2 [98] = (0, p3) ∧ HP p3 n 5000 ∧ putP p3 3 s = (2, 0, p4) := by
  have n4 := h.hp.n4
  obtain ⟨m, rfl⟩ : ∃ m, n = m + 3 := ⟨n - 3, by omega⟩
  have e1 : p.pages = (0, 0) :: (0, 0) :: List.replicate (m + 1) (2, 0) := by rw [h.pages]; simp
  have k1 := h.hp.full 3 s (by omega) (by rw [h.gen]; omega) hs (by rw [e1, ffL_two, find_rep0 _ _ (by simp)]; omega)
  have k2 : freeL p.pages = 0 := by rw [e1, freeL_two, List.filter_replicate]; simp
  obtain ⟨d1, c1, c2, c3, c4⟩ := h.hp.commit [97] (by rw [h.gen]; omega) (by simp)
  rw [h.gen, e1] at c1
  have q1 : settleP { p with d := d1, gen := 1 + 1, root := [97], pages := List.map (cmF (1 + 1)) ((0, 0) :: (0, 0) :: List.replicate (m + 1) (2, 0)) } = { p with d := d1, gen := 2, root := [97], pages := (0, 0) :: (0, 0) :: (1, 0) :: List.replicate m (1, 0) } := by
    unfold settleP; simp [h.pins, cmF, setl, List.replicate_succ]
  rw [q1] at c1
  have H1 : HP { p with d := d1, gen := 2, root := [97], pages := (0, 0) :: (0, 0) :: (1, 0) :: List.replicate m (1, 0) } (m + 3) 5000 := ⟨c2.up (by omega), h.hp.dead, by simp, by omega⟩
  have e2 := H1.drop1 2 0 (by omega) (by omega) rfl
  have H2 : HP { p with d := d1, gen := 2, root := [97], pages := (0, 0) :: (0, 0) :: (3, 0) :: List.replicate m (1, 0) } (m + 3) 4000 := ⟨c2.up (by omega), h.hp.dead, by simp, by omega⟩
  have e3 := H2.full 3 s (by omega) (by show 2 + 1 ≤ _; omega) hs (by show ffL ((0, 0) :: (0, 0) :: ((3, 0) :: List.replicate m (1, 0))) = _; rw [ffL_two, List.findIdx_cons, find_rep0 _ _ (by simp)]; simp; omega)
  obtain ⟨d3, f1, f2, f3, f4⟩ := H2.commit [98] (by show 2 + 1 ≤ _; omega) (by simp)
  have q2 : settleP { ({ p with d := d1, gen := 2, root := [97], pages := (0, 0) :: (0, 0) :: (3, 0) :: List.replicate m (1, 0) } : Pg) with d := d3, gen := 2 + 1, root := [98], pages := List.map (cmF (2 + 1)) ((0, 0) :: (0, 0) :: (3, 0) :: List.replicate m (1, 0)) } = { p with d := d3, gen := 3, root := [98], pages := (0, 0) :: (0, 0) :: (0, 0) :: List.replicate m (1, 0) } := by
    unfold settleP; simp [h.pins, cmF, setl]
  have H3 : HP { p with d := d3, gen := 3, root := [98], pages := (0, 0) :: (0, 0) :: (0, 0) :: List.replicate m (1, 0) } (m + 3) 5000 := ⟨f2.up (by omega), h.hp.dead, by simp, by omega⟩
  obtain ⟨d4, g1, g2, g3⟩ := H3.put 3 s 2 (by omega) (by show 3 + 1 ≤ _; omega) hs (by rfl) (by omega)
  exact ⟨k1, k2, _, _, _, _, h.hp.up (by omega), c1, H1, e2, H2.up (by omega), e3, f1.trans (by rw [← q2]), H3, g1⟩

/-- The beginning. -/
theorem room_begin (n : Nat) (h4 : 4 ≤ n) (h6 : n ≤ 4096) : ∃ d, formatD { L := List.replicate n (zeros 512), wait := [], steps := 0, fuse := -1, gone := false } = (0, d) ∧ openE d = 0 ∧ Hl d n 1000 ∧ RoomAt (openP d) n 0 ∧ freeL (openP d).pages = n - 2 := by
  obtain ⟨d, k1, k2, k3, k4⟩ := HP.begin (Hl.new n (by omega) h6) h4
  have e : List.replicate n ((0 : Nat), (0 : Nat)) = (0, 0) :: (0, 0) :: List.replicate (n - 2) (0, 0) := by
    rw [show n = (n - 2) + 1 + 1 by omega, List.replicate_succ, List.replicate_succ]; rfl
  refine ⟨d, k1, k2, k4.up (by omega), ⟨⟨by rw [k3]; exact k4.up (by omega), by rw [k3], by rw [k3]; simp, h4⟩, by rw [k3], by rw [k3], by rw [k3]; simp [e]⟩, ?_⟩
  rw [k3]
  show freeL (List.replicate n (0, 0)) = _
  rw [e, freeL_two, List.filter_replicate]; simp
end

section
open Go.RowKit

/-- v is a slice of strings that reads as l. -/
def Strs (w : World) (v : Value) (l : List ByteArray) : Prop :=
  (∃ a cap, v = .slice a 0 cap ∧ l = []) ∨ ∃ b off cap cs e fz, v = .slice (some ⟨b, off, none⟩) l.length cap ∧ w.heap[b]? = some (.cells cs e fz) ∧
    ∀ (j : Nat) (x : ByteArray), l[j]? = some x → cs[off + j]? = some (.string x)
theorem Strs.ch {S : Nat → Prop} {w w' : World} {v : Value} {l : List ByteArray} (h : Strs w v l) (hc : Ch S w w') (hn : ∀ k, k < w.heap.size → ¬ S k) : Strs w' v l := by
  rcases h with h | ⟨b, off, cap, cs, e, fz, rfl, hb, hcs⟩
  · exact .inl h
  · exact .inr ⟨b, off, cap, cs, e, fz, rfl, hc.keep hb (hn b (blk_lt hb)), hcs⟩
theorem Strs.form {w : World} {v : Value} {l : List ByteArray} (h : Strs w v l) : ∃ a cap, v = .slice a l.length cap := by
  rcases h with ⟨a, cap, rfl, rfl⟩ | ⟨b, off, cap, cs, e, fz, rfl, _⟩
  · exact ⟨a, cap, rfl⟩
  · exact ⟨_, cap, rfl⟩
theorem Strs.get {w : World} {a : Option Addr} {n cap : Nat} {l : List ByteArray} (h : Strs w (.slice a n cap) l) {j : Nat} {x : ByteArray} (hx : l[j]? = some x) :
    ∃ b off, a = some ⟨b, off, none⟩ ∧ w.cell? ⟨b, off + j, none⟩ = some (.string x) ∧ b < w.heap.size := by
  rcases h with ⟨_, _, h, rfl⟩ | ⟨b, off, c, cs, e, fz, h, hb, hcs⟩
  · simp at hx
  · cases h
    exact ⟨b, off, rfl, by rw [cell_blk hb]; exact hcs j x hx, blk_lt hb⟩
/-- v is a slice of ints that reads as l. -/
def Ints (w : World) (v : Value) (l : List Int) : Prop :=
  (∃ a cap, v = .slice a 0 cap ∧ l = []) ∨ ∃ b off cap cs e fz, v = .slice (some ⟨b, off, none⟩) l.length cap ∧ w.heap[b]? = some (.cells cs e fz) ∧
    ∀ (j : Nat) (x : Int), l[j]? = some x → cs[off + j]? = some (.int .i64 x)
theorem Ints.ch {S : Nat → Prop} {w w' : World} {v : Value} {l : List Int} (h : Ints w v l) (hc : Ch S w w') (hn : ∀ k, k < w.heap.size → ¬ S k) : Ints w' v l := by
  rcases h with h | ⟨b, off, cap, cs, e, fz, rfl, hb, hcs⟩
  · exact .inl h
  · exact .inr ⟨b, off, cap, cs, e, fz, rfl, hc.keep hb (hn b (blk_lt hb)), hcs⟩
theorem Ints.form {w : World} {v : Value} {l : List Int} (h : Ints w v l) : ∃ a cap, v = .slice a l.length cap := by
  rcases h with ⟨a, cap, rfl, rfl⟩ | ⟨b, off, cap, cs, e, fz, rfl, _⟩
  · exact ⟨a, cap, rfl⟩
  · exact ⟨_, cap, rfl⟩
theorem Ints.get {w : World} {a : Option Addr} {n cap : Nat} {l : List Int} (h : Ints w (.slice a n cap) l) {j : Nat} {x : Int} (hx : l[j]? = some x) :
    ∃ b off, a = some ⟨b, off, none⟩ ∧ w.cell? ⟨b, off + j, none⟩ = some (.int .i64 x) ∧ b < w.heap.size := by
  rcases h with ⟨_, _, h, rfl⟩ | ⟨b, off, c, cs, e, fz, h, hb, hcs⟩
  · simp at hx
  · cases h
    exact ⟨b, off, rfl, by rw [cell_blk hb]; exact hcs j x hx, blk_lt hb⟩

/-- The cells of pages of a law's. -/
def hasCells (l : List (Nat × ByteArray)) : List Value := l.flatMap fun x => [.int .i64 (x.1 : Int), .string x.2]
theorem hasCells_snoc (l : List (Nat × ByteArray)) (x : Nat × ByteArray) : hasCells (l ++ [x]) = hasCells l ++ [.int .i64 (x.1 : Int), .string x.2] := by simp [hasCells]
theorem hasCells_get (l : List (Nat × ByteArray)) : ∀ (j : Nat) (x : Nat × ByteArray), l[j]? = some x → (hasCells l)[j * 2]? = some (.int .i64 (x.1 : Int)) ∧ (hasCells l)[j * 2 + 1]? = some (.string x.2) := by
  induction l with
  | nil => intro j x h; simp at h
  | cons y l ih =>
    intro j x h
    have e : hasCells (y :: l) = .int .i64 (y.1 : Int) :: .string y.2 :: hasCells l := by simp [hasCells]
    rw [e]
    cases j with
    | zero => simp at h; subst h; exact ⟨rfl, rfl⟩
    | succ j =>
      have := ih j x (by simpa using h)
      rw [show (j + 1) * 2 = j * 2 + 1 + 1 by omega]
      exact this
/-- v is a slice of pages, in room of its own from base on, that is none of Q. -/
def HasAt (w : World) (base : Nat) (Q : Nat → Prop) (v : Value) (n : Nat) (l : List (Nat × ByteArray)) : Prop :=
  w.ownsRow base 96 2 v n (hasCells l) ∧ l.length = n ∧ ∀ k, v.ownBlock = some k → ¬ Q k
theorem HasAt.form {w : World} {base n : Nat} {Q : Nat → Prop} {v : Value} {l : List (Nat × ByteArray)} (h : HasAt w base Q v n l) : ∃ a cap, v = .slice a n cap := by
  rcases h.1.2 with ⟨rfl, h0⟩ | ⟨g, cap, cur, rfl, _⟩
  · exact ⟨none, 0, by rw [h0]⟩
  · exact ⟨_, cap, rfl⟩
theorem HasAt.start (w : World) (base : Nat) (Q : Nat → Prop) : HasAt w base Q (.slice none 0 0) 0 [] := ⟨⟨rfl, .inl ⟨rfl, rfl⟩⟩, rfl, fun k hk => by cases hk⟩
theorem HasAt.get {w : World} {base n m cap : Nat} {Q : Nat → Prop} {a : Option Addr} {l : List (Nat × ByteArray)} (h : HasAt w base Q (.slice a m cap) n l) {j : Nat} {x : Nat × ByteArray} (hx : l[j]? = some x) :
    ∃ b, a = some ⟨b, 0, none⟩ ∧ w.cell? ⟨b, j * 2, none⟩ = some (.int .i64 (x.1 : Int)) ∧ w.cell? ⟨b, j * 2 + 1, none⟩ = some (.string x.2) ∧ b < w.heap.size := by
  obtain ⟨h1, h2, _⟩ := h
  have hj := (List.getElem?_eq_some_iff.1 hx).1
  rcases h1.2 with ⟨h, h0⟩ | ⟨g, c, cur, h, hb, hg, hc, _, hs, ht⟩
  · omega
  · cases h
    have := hasCells_get l j x hx
    rw [← ht, List.getElem?_take, List.getElem?_take, if_pos (by omega), if_pos (by omega)] at this
    exact ⟨g, rfl, by rw [cell_blk hg]; simpa using this.1, by rw [cell_blk hg]; simpa using this.2, blk_lt hg⟩
theorem HasAt.ch {w w' : World} {base n : Nat} {Q Q' S : Nat → Prop} {v : Value} {l : List (Nat × ByteArray)} (h : HasAt w base Q v n l) (hc : Ch S w w') (hs : ∀ k, S k → k < w.heap.size → Q k) (hf : Fresh w Q Q') : HasAt w' base Q' v n l := by
  obtain ⟨h1, h2, h3⟩ := h
  have hlt : ∀ k, v.ownBlock = some k → k < w.heap.size := fun k hk => (h1.lt k hk).2
  refine ⟨ownsRow_frame h1 (fun k hk => hc.block k (hlt k hk) (fun hS => h3 k hk (hs k hS (hlt k hk)))), h2, fun k hk hq => ?_⟩
  rcases hf k hq with h | h
  · exact h3 k hk h
  · have := hlt k hk; omega
theorem Try.info96 : (Try.prog.info? 96).map (fun i => (i.zero, i.size, i.bytes)) = some (some (.agg #[.int .i64 0, .string ⟨#[]⟩]), 2, 24) := by kernel_rfl
/-- append of a page. -/
theorem HasAt.snoc {w : World} {base n : Nat} {Q : Nat → Prop} {v : Value} {l : List (Nat × ByteArray)} (h : HasAt w base Q v n l) (hq : ∀ k, Q k → k < w.heap.size) (hn : n ≤ 1000) (hb : base ≤ w.heap.size) (x : Nat × ByteArray) (g : Nat) (h0 : w.cell? ⟨g, 0, none⟩ = some (.int .i64 (x.1 : Int))) (h1 : w.cell? ⟨g, 1, none⟩ = some (.string x.2)) (ty : TypeId) (c : Nat) :
    ∃ v' w', (Builtin.append_ #[91, 91] ty #[v, .slice (some ⟨g, 0, none⟩) 1 c]).run Try.prog w = .ok v' w' ∧ HasAt w' base Q v' (n + 1) (l ++ [x]) ∧ Ch (fun k => v.ownBlock = some k) w w' := by
  obtain ⟨k1, k2, k3⟩ := h
  obtain ⟨i, hi, hzz⟩ := Option.map_eq_some_iff.1 Try.info96
  simp only [Prod.mk.injEq] at hzz
  obtain ⟨hz, hs, hby⟩ := hzz
  obtain ⟨v', w', r1, r2, r3, _, r5⟩ := run_append_own_at (P := Try.prog) (w := w) base 91 ty 96 i (.agg #[.int .i64 0, .string ⟨#[]⟩]) 2 24 Try.underlying91 hi hz hs hby rfl (by omega) v n (hasCells l) k1 ⟨g, 0, none⟩ 1 c [.int .i64 (x.1 : Int), .string x.2] rfl
    (by
      intro j u hu
      rcases j with _ | _ | j
      · simp at hu; subst hu; rw [add_plain]; exact h0
      · simp at hu; subst hu; rw [add_plain]; exact h1
      · simp at hu) (by intro u hu; simp at hu; rcases hu with rfl | rfl <;> rfl) (by simp only [maxLen]; omega) (by omega) hb
  refine ⟨v', w', r1, ⟨by rw [hasCells_snoc]; exact r2, by simp [k2], fun k hk hQ => ?_⟩, (Ch.refl _ w).grown r3 (fun k hk _ => hk)⟩
  rcases r5 with e | e
  · exact k3 k (by rw [← e]; exact hk) hQ
  · rw [e] at hk
    have := hq k hQ
    simp only [Option.some.injEq] at hk
    omega

/-- What is put of a string. -/
def cutB (s : ByteArray) : ByteArray := s.extract 0 (min s.size 492)
theorem cutB_size (s : ByteArray) : (cutB s).size ≤ 492 := by
  unfold cutB; rw [ByteArray.size_extract]; omega
/-- The pages that lie on a disk. -/
def HasOk (d : Dk) (has : List (Nat × ByteArray)) : Prop := ∀ (j : Nat) (x : Nat × ByteArray), has[j]? = some x → x.1 = j + 2 ∧ x.2.size ≤ 492 ∧ cont d x.1 = sealB j 2 x.2.data.toList
theorem RoomAt.put {p : Pg} {n m : Nat} (h : RoomAt p n m) (hm : m + 2 < n) (kind : Nat) (hk : kind ≤ 255) (s : List UInt8) (hs : s.length ≤ 492) :
    ∃ p', putP p kind s = (m + 2, 0, p') ∧ RoomAt p' n (m + 1) ∧ ∀ i, cont p'.d i = if i = m + 2 then sealB kind 2 s else cont p.d i := by
  have e0 : n - 2 - m = (n - 2 - (m + 1)) + 1 := by omega
  have e1 : p.pages = (0, 0) :: (0, 0) :: (List.replicate m (2, 0) ++ (0, 0) :: List.replicate (n - 2 - (m + 1)) (0, 0)) := by rw [h.pages, e0, List.replicate_succ]
  have e2 : ffL p.pages = m + 2 := by rw [e1, ffL_two, find_rep _ _ (by simp), List.findIdx_cons]; simp; omega
  obtain ⟨d', k1, k2, k3⟩ := h.hp.put kind s (m + 2) hk (by rw [h.gen]; omega) hs e2 hm
  have e3 : p.pages.set (m + 2) (2, (p.pages.getD (m + 2) (0, 0)).2) = (0, 0) :: (0, 0) :: (List.replicate (m + 1) (2, 0) ++ List.replicate (n - 2 - (m + 1)) (0, 0)) := by
    have g : (p.pages.getD (m + 2) (0, 0)).2 = 0 := by
      rw [e1]
      show ((List.replicate m (2, 0) ++ (0, 0) :: List.replicate (n - 2 - (m + 1)) (0, 0)).getD m (0, 0)).2 = 0
      rw [List.getD, List.getElem?_append_right (by simp)]; simp
    rw [g, e1]
    show (0, 0) :: (0, 0) :: ((List.replicate m (2, 0) ++ (0, 0) :: List.replicate (n - 2 - (m + 1)) (0, 0)).set m (2, 0)) = _
    rw [set_rep, rep_snoc]
  rw [e3] at k1
  rw [h.gen] at k3
  refine ⟨_, k1, ⟨⟨k2, h.hp.dead, ?_, h.hp.n4⟩, h.gen, h.pins, rfl⟩, k3⟩
  simp; have := h.hp.n4; omega
theorem HasOk.snoc {d d' : Dk} {has : List (Nat × ByteArray)} (h : HasOk d has) (s : ByteArray) (hs : s.size ≤ 492) (hc : ∀ i, cont d' i = if i = has.length + 2 then sealB has.length 2 s.data.toList else cont d i) : HasOk d' (has ++ [(has.length + 2, s)]) := by
  intro j x hx
  by_cases hj : j < has.length
  · rw [List.getElem?_append_left hj] at hx
    obtain ⟨h1, h2, h3⟩ := h j x hx
    exact ⟨h1, h2, by rw [hc, if_neg (by omega)]; exact h3⟩
  · have hlt := (List.getElem?_eq_some_iff.1 hx).1
    simp at hlt
    obtain rfl : j = has.length := by omega
    simp at hx
    subst hx
    exact ⟨rfl, hs, by rw [hc]; simp⟩
/-- A pager with these pages, which are committed. -/
structure Begun (p : Pg) (n : Nat) (has : List (Nat × ByteArray)) : Prop where
  hp : HP p n 2000
  gen : p.gen = 2
  root : p.root = [111, 108, 100]
  pins : p.pins = []
  ops : p.ops = 0
  pages : p.pages = (0, 0) :: (0, 0) :: (List.replicate has.length (1, 0) ++ List.replicate (n - 2 - has.length) (0, 0))
  len : has.length ≤ 12
  ok : HasOk p.d has
  wait : p.d.wait = []
  r0 : cont p.d 0 = rootB 2 [111, 108, 100]
  r1 : cont p.d 1 = rootB 1 []
theorem RoomAt.begun {p : Pg} {n : Nat} {has : List (Nat × ByteArray)} (h : RoomAt p n has.length) (ho : p.ops = 0) (hl : has.length ≤ 12) (hn : has.length + 2 ≤ n) (hok : HasOk p.d has) (hr : cont p.d 1 = rootB 1 []) : ∃ p', commitP p [111, 108, 100] = (0, p') ∧ Begun p' n has := by
  obtain ⟨d1, c1, c2, c3, c4⟩ := h.hp.commit [111, 108, 100] (by rw [h.gen]; omega) (by simp)
  rw [h.gen, h.pages] at c1
  rw [h.gen] at c4
  refine ⟨_, c1, ⟨⟨c2.up (by omega), h.hp.dead, ?_, h.hp.n4⟩, rfl, rfl, h.pins, ho, ?_, hl, fun j x hx => ?_, c3, (c4 0 (by omega)).trans (if_pos (by omega)), (c4 1 (by omega)).trans ((if_neg (by omega)).trans hr)⟩⟩
  · simp [settleP]; have := h.hp.n4; omega
  · unfold settleP; simp [h.pins, cmF, setl]
  · obtain ⟨h1, h2, h3⟩ := hok j x hx
    have hj := (List.getElem?_eq_some_iff.1 hx).1
    exact ⟨h1, h2, by show cont d1 x.1 = _; rw [c4 _ (by omega), if_neg (by omega)]; exact h3⟩
end

section
open Go.RowKit

theorem drewN_ch (w : World) (n : Nat) : Ch (fun _ => False) w (w.drewN n) := ⟨rfl, rfl, rfl, Nat.le_refl _, fun _ _ _ => rfl⟩
theorem put_ops (p : Pg) (kind : Int) (s : List UInt8) : (putP p kind s).2.2.ops = p.ops := by
  unfold putP; split
  · rfl
  · split
    · rfl
    · split
      · rfl
      · split <;> rfl
theorem heap_new2 (w : World) (x y : Value) (e : TypeId) : (w.alloc (.cells #[x, y] e)).cell? ⟨w.heap.size, 0, none⟩ = some x ∧ (w.alloc (.cells #[x, y] e)).cell? ⟨w.heap.size, 1, none⟩ = some y := by
  constructor <;> (rw [cell_blk (heap_new _)]; rfl)
theorem room_begin1 (n : Nat) (h4 : 4 ≤ n) (h6 : n ≤ 4096) : ∃ d, formatD { L := List.replicate n (zeros 512), wait := [], steps := 0, fuse := -1, gone := false } = (0, d) ∧ openE d = 0 ∧ Hl d n 1000 ∧ RoomAt (openP d) n 0 ∧ cont (openP d).d 1 = rootB 1 [] := by
  obtain ⟨d, k1, k2, k3, k4, _⟩ := room_begin n h4 h6
  refine ⟨d, k1, k2, k3, k4, ?_⟩
  obtain ⟨_, _, _, a4⟩ := (Hl.new n (by omega) h6).format h4
  have := a4 1 (by omega)
  rw [k1, if_neg (by omega), if_pos rfl] at this
  exact this
/-- What begun answers. -/
def BegunPost (w : World) (n : Nat) (l : List ByteArray) (e : Ending) (w' : World) : Prop :=
  ∃ dp pp Q ha hcap p has, e = .returned (.tuple #[.pointer (some ⟨dp, 0, none⟩), .pointer (some ⟨pp, 0, none⟩), .slice ha has.length hcap]) ∧ PZ w w' pp dp p Q ∧ Begun p n has ∧ HasAt w' w.heap.size Q (.slice ha has.length hcap) has.length has ∧ has.length = min l.length 12

set_option maxRecDepth 20000 in
set_option maxHeartbeats 4000000 in
theorem begun_any (n : Nat) (a : Option Addr) (cap : Nat) (l : List ByteArray) (w : World) (hn : 14 ≤ n) (hn2 : n ≤ 60) (h : Strs w (.slice a l.length cap) l) :
    Calls Try.prog 60 #[.int .i64 n, .slice a l.length cap] w (BegunPost w n l) := by
  obtain ⟨d, k1, k2, k3, k4, k5⟩ := room_begin1 n (by omega) (by omega)
  have hnew := new_z n w (Ch.refl _ w) (by omega) (by omega)
  have hl0 := Hl.new n (by omega) (by omega)
  obtain ⟨D0, HD0⟩ : ∃ d, Hid (({ L := List.replicate n (zeros 512), wait := [], steps := 0, fuse := -1, gone := false } : Dk) = d) := ⟨_, hid rfl⟩
  rw [HD0.out] at hnew hl0 k1
  obtain ⟨P0, HP0⟩ : ∃ p, Hid (openP d = p) := ⟨_, hid rfl⟩
  have ho0 : (openP d).ops = 0 := rfl
  rw [HP0.out] at k4 k5 ho0
  have HL0 := hid hl0
  have K1 := hid k1
  have K2 := hid k2
  have K3 := hid k3
  have K4 := hid k4
  have K5 := hid k5
  have HO0 := hid ho0
  have HN := hid hnew
  have HA := hid h
  clear k1 k2 k3 k4 k5 hnew hl0 ho0 h
  go_enter Try.func60, Try.ntmps60
  go_wp2_with fail
  refine HN.out.mono ?_
  rintro e w1 ⟨dp, rfl, hz⟩
  have hfm := format_z w1 hz HL0.out (by omega) (by omega)
  rw [K1.out] at hfm
  have HFM := hid hfm
  clear hz hfm
  go_wp2_with fail
  refine HFM.out.mono ?_
  rintro e w2 ⟨rfl, hz⟩
  have hop := open_z w2 hz K3.out (by omega) K2.out
  rw [HP0.out] at hop
  have HOP := hid hop
  clear hz hop
  go_wp2_with (go_at_call 55; refine (no3_any _ _).mono ?_; rintro e w' ⟨rfl, rfl⟩)
  refine HOP.out.mono ?_
  rintro e w3 ⟨pp, Q, rfl, hz⟩
  have HZ := hid hz
  clear hz
  go_wp2_with (go_at_call 55; refine (no3_any _ _).mono ?_; rintro e w' ⟨rfl, rfl⟩)
  go_loopw [11, 12] (fun hv i wr => ∃ j : Nat, i = .int .i64 (j : Int) ∧ j ≤ l.length ∧ j ≤ 12 ∧ (∃ a cap, hv = .slice a j cap) ∧ Hid (∃ p Q has, PZ w wr pp dp p Q ∧ RoomAt p n j ∧ p.ops = 0 ∧ HasAt wr w.heap.size Q hv j has ∧ HasOk p.d has ∧ cont p.d 1 = rootB 1 [])) (fun _ i _ => 100 - (intOf i).toNat)
  case atStart => exact ⟨0, rfl, Nat.zero_le _, Nat.zero_le _, ⟨none, 0, rfl⟩, hid ⟨_, _, [], HZ.out, K4.out, HO0.out, HasAt.start _ _ _, fun j x hx => by simp at hx, K5.out⟩⟩
  case round =>
    obtain ⟨j, rfl, hj, hj12, ⟨ha, hcap, rfl⟩, HI⟩ := hrel
    obtain ⟨p, Qp, has, hz, hr, ho, hh, hok, hro⟩ := HI.out
    have HRo := hid hro
    have HZ := hid hz
    have HR := hid hr
    have HO := hid ho
    have HH := hid hh
    have HOk := hid hok
    have HC := hid hz.base
    clear hz hr ho hh hok hro
    by_cases hlt : j < l.length
    · by_cases h12 : j < 12
      · obtain ⟨x, HX⟩ : ∃ x, Hid (l[j]? = some x) := ⟨l[j]'hlt, hid (List.getElem?_eq_getElem _)⟩
        obtain ⟨b, off, rfl, hcell, hblt⟩ := (HA.out.ch HC.out (fun _ _ h => h)).get HX.out
        go_wp2_with fail
        go_quiet (fail)
        have hcut : x.extract 0 (if 492 < (x.size : Int) then 492 else (x.size : Int)).toNat = cutB x := by
          unfold cutB
          congr 1
          split <;> omega
        obtain ⟨c, HCc⟩ : ∃ c, Hid (cutB x = c) := ⟨_, hid rfl⟩
        rw [hcut, HCc.out]
        generalize (if 492 < (x.size : Int) then 492 else (x.size : Int)) = zz
        have hcs : c.size ≤ 492 := by rw [← HCc.out]; exact cutB_size x
        clear hcut
        obtain ⟨p', hp1, hp2, hp3⟩ := HR.out.put (by omega) j (by omega) c.data.toList (by rw [size_toList]; exact hcs)
        have hzq := HZ.out.ch (drewN_ch wr nq) (fun _ _ h => h) (fun _ _ h => h)
        have hhq := HH.out.ch (drewN_ch wr nq) (fun _ h _ => h.elim) (Fresh.refl _ _)
        obtain ⟨wq, hwq⟩ : ∃ wq, Hid (wr.drewN nq = wq) := ⟨_, hid rfl⟩
        rw [hwq.out] at hzq hhq ⊢
        have hpt := put_z (j : Int) c wq hzq HR.out.hp (by omega)
        rw [hp1] at hpt
        have HPT := hid hpt
        have HR2 := hid hp2
        have HP3 := hid hp3
        have HH2 := hid hhq
        have HE : Hid (p'.ops = 0) := hid (by
          have := congrArg (fun z => z.2.2.ops) hp1
          simp only at this
          rw [← this, put_ops, HO.out])
        have HCs := hid hcs
        clear hpt hp1 hp2 hp3 hzq hhq hcell hcs
        go_wp2_with fail
        refine HPT.out.mono ?_
        rintro e w6 ⟨rfl, Q6, hz6, hf6, hc6⟩
        have HZ6 := hid hz6
        have hh6 := HH2.out.ch hc6 (fun _ h _ => h) hf6
        have hg := heap_new2 w6 (.int .i64 ((j + 2 : Nat) : Int)) (.string c) 96
        have hz7 := hz6.ch ((Ch.refl (fun _ => False) w6).alloc (.cells #[.int .i64 ((j + 2 : Nat) : Int), .string c] 96)) (fun _ _ h => h) (fun _ _ h => h)
        have hh7 := hh6.ch ((Ch.refl (fun _ => False) w6).alloc (.cells #[.int .i64 ((j + 2 : Nat) : Int), .string c] 96)) (fun _ h _ => h.elim) (Fresh.refl _ _)
        obtain ⟨v', w8, hrun, hh8, hc8⟩ := hh7.snoc (fun k hk => (hz7.lt k hk).2) (by omega) (by have := hz7.base.size; omega) (j + 2, c) w6.heap.size hg.1 hg.2 91 1
        have HZ7 := hid hz7
        have hnb : ∀ k, (Value.slice ha j hcap).ownBlock = some k → ¬ Q6 k ∧ ¬ k < w.heap.size := fun k hk => ⟨hh7.2.2 k hk, by have := (hh7.1.lt k hk).1; omega⟩
        have hz8 := hz7.ch hc8 (fun k hQ hk => (hnb k hk).1 hQ) (fun k hlt hk => (hnb k hk).2 hlt)
        obtain ⟨g, gcap, rfl⟩ := hh8.form
        have hlen : has.length = j := HH.out.2.1
        have hok8 : HasOk p'.d (has ++ [(j + 2, c)]) := by
          have := HOk.out.snoc (d' := p'.d) c HCs.out (by rw [hlen]; exact HP3.out)
          rw [hlen] at this; exact this
        have HZ8 := hid hz8
        have HH8 := hid hh8
        have HOk8 := hid hok8
        have HRo8 : Hid (cont p'.d 1 = rootB 1 []) := hid (by rw [HP3.out, if_neg (by omega)]; exact HRo.out)
        have HRun := hid hrun
        clear hg hz6 hf6 hc6 hh6 hz7 hh7 hrun hh8 hc8 hnb hz8 hlen hok8 hwq
        go_wp2_with (first | (go_at_call 55; refine (no3_any _ _).mono ?_; rintro e w' ⟨rfl, rfl⟩) | (at_builtin; refine wpList_append_run rfl (.tmp 68) (.tmp 72) 91 91 rfl _ _ HRun.out ?_))
        go_roundw
        case rel => exact ⟨j + 1, by go_num, by omega, by omega, ⟨g, gcap, by go_num⟩, hid ⟨p', Q6, _, HZ8.out, HR2.out, HE.out, HH8.out, HOk8.out, HRo8.out⟩⟩
        case measure => simp [intOf]; omega
      · obtain rfl : j = 12 := by omega
        have hl12 : has.length = 12 := HH.out.2.1
        obtain ⟨p', hp1, hp2⟩ := RoomAt.begun (has := has) (by rw [hl12]; exact HR.out) HO.out (by omega) (by omega) HOk.out HRo.out
        have hcm := commit_z ⟨#[111, 108, 100]⟩ wr HZ.out HR.out.hp (by omega)
        rw [show (⟨#[111, 108, 100]⟩ : ByteArray).data.toList = [111, 108, 100] from rfl, hp1] at hcm
        have HCM := hid hcm
        have HB := hid hp2
        have HL := hid hl12
        have hmin : has.length = min l.length 12 := by omega
        have HMin := hid hmin
        clear hcm hp1 hp2 hl12 hmin
        go_wp2_with fail
        refine HCM.out.mono ?_
        rintro e w6 ⟨rfl, Q6, hz6, hf6, hc6⟩
        have HZ6 := hid hz6
        have HH6 := hid (HH.out.ch hc6 (fun _ h _ => h) hf6)
        clear hz6 hf6 hc6
        go_wp2_with (go_at_call 55; refine (no3_any _ _).mono ?_; rintro e w' ⟨rfl, rfl⟩)
        go_ret3
        refine ⟨dp, pp, Q6, ha, hcap, p', has, by rw [HL.out]; rfl, HZ6.out, HB.out, ?_, HMin.out⟩
        rw [HL.out]; exact HH6.out
    · obtain rfl : j = l.length := by omega
      have hl12 : has.length = l.length := HH.out.2.1
      obtain ⟨p', hp1, hp2⟩ := RoomAt.begun (has := has) (by rw [hl12]; exact HR.out) HO.out (by omega) (by omega) HOk.out HRo.out
      have hcm := commit_z ⟨#[111, 108, 100]⟩ wr HZ.out HR.out.hp (by omega)
      rw [show (⟨#[111, 108, 100]⟩ : ByteArray).data.toList = [111, 108, 100] from rfl, hp1] at hcm
      have HCM := hid hcm
      have HB := hid hp2
      have HL := hid hl12
      have hmin : has.length = min l.length 12 := by omega
      have HMin := hid hmin
      clear hcm hp1 hp2 hl12 hmin
      go_wp2_with fail
      refine HCM.out.mono ?_
      rintro e w6 ⟨rfl, Q6, hz6, hf6, hc6⟩
      have HZ6 := hid hz6
      have HH6 := hid (HH.out.ch hc6 (fun _ h _ => h) hf6)
      clear hz6 hf6 hc6
      go_wp2_with (go_at_call 55; refine (no3_any _ _).mono ?_; rintro e w' ⟨rfl, rfl⟩)
      go_ret3
      refine ⟨dp, pp, Q6, ha, hcap, p', has, by rw [HL.out]; rfl, HZ6.out, HB.out, ?_, HMin.out⟩
      rw [HL.out]; exact HH6.out
end

section
open Go.RowKit

/-- The pages as begun leaves them, f for those that are committed. -/
def bPages (x : Nat × Nat) (n m : Nat) : List (Nat × Nat) := (0, 0) :: (0, 0) :: (List.replicate m x ++ List.replicate (n - 2 - m) (0, 0))
theorem bPages_length (x : Nat × Nat) (n m : Nat) (h : m + 2 ≤ n) : (bPages x n m).length = n := by unfold bPages; simp; omega
theorem bPages_get (x : Nat × Nat) (n m j : Nat) (h : j < m) : (bPages x n m)[j + 2]? = some x := by
  show (List.replicate m x ++ List.replicate (n - 2 - m) (0, 0))[j]? = _
  rw [List.getElem?_append_left (by simpa using h), List.getElem?_replicate, if_pos h]
theorem bPages_two {n m i : Nat} {y : Nat × Nat} (h : (bPages (1, 0) n m)[i]? = some y) : y = (0, 0) ∨ y = (1, 0) := by
  have := List.mem_of_getElem? h
  unfold bPages at this
  simp at this
  rcases this with h | h | h
  · exact .inl h
  · exact .inr h.2
  · exact .inl h.2
theorem bPages_free (n m : Nat) : freeL (bPages (1, 0) n m) = n - 2 - m := by
  unfold bPages; rw [freeL_two, List.filter_append, List.filter_replicate, List.filter_replicate]; simp
theorem ffL_free {l : List (Nat × Nat)} {j : Nat} (h : ffL l = j) (h2 : 2 ≤ l.length) (hj : j < l.length) : ∃ x, l[j]? = some x ∧ x.1 = 0 ∧ 2 ≤ j := by
  obtain _ | ⟨a, _ | ⟨b, L⟩⟩ := l
  · simp at h2
  · simp at h2
  · rw [ffL_two] at h
    subst h
    have hlt : L.findIdx (fun x => x.1 == 0) < L.length := by simp at hj; omega
    have e : (a :: b :: L)[2 + L.findIdx (fun x => x.1 == 0)]? = L[L.findIdx (fun x => x.1 == 0)]? := by rw [Nat.add_comm]; rfl
    refine ⟨L[L.findIdx (fun x => x.1 == 0)]'hlt, by rw [e]; exact List.getElem?_eq_getElem hlt, ?_, by omega⟩
    have := List.findIdx_getElem (w := hlt) (p := fun x : Nat × Nat => x.1 == 0)
    simpa using this
theorem ffL_le {l : List (Nat × Nat)} (h2 : 2 ≤ l.length) : ffL l ≤ l.length := by
  obtain _ | ⟨a, _ | ⟨b, L⟩⟩ := l
  · simp at h2
  · simp at h2
  · rw [ffL_two]
    have := List.findIdx_le_length (xs := L) (p := fun x : Nat × Nat => x.1 == 0)
    simp; omega

/-- What is put and dropped, and may be taken back. -/
structure AbI (p : Pg) (n k : Nat) (has : List (Nat × ByteArray)) : Prop where
  hp : HP p n k
  gen : p.gen = 2
  root : p.root = [111, 108, 100]
  pins : p.pins = []
  pages : p.pages.map abF = bPages (1, 0) n has.length
  room : has.length + 2 ≤ n
  ok : HasOk p.d has
theorem Begun.abI {p : Pg} {n : Nat} {has : List (Nat × ByteArray)} (h : Begun p n has) (hn : 14 ≤ n) : AbI p n 2000 has := by
  refine ⟨h.hp, h.gen, h.root, h.pins, ?_, by have := h.len; omega, h.ok⟩
  rw [h.pages]; unfold bPages; simp [abF]
theorem AbI.up {p : Pg} {n k m : Nat} {has : List (Nat × ByteArray)} (h : AbI p n k has) (hm : k ≤ m) : AbI p n m has := ⟨h.hp.up hm, h.gen, h.root, h.pins, h.pages, h.room, h.ok⟩
theorem AbI.at_ {p : Pg} {n k : Nat} {has : List (Nat × ByteArray)} (h : AbI p n k has) {i : Nat} {x : Nat × Nat} (hx : p.pages[i]? = some x) : (bPages (1, 0) n has.length)[i]? = some (abF x) := by
  rw [← h.pages, List.getElem?_map, hx]; rfl
theorem map_set_same {α β : Type} (f : α → β) (l : List α) (j : Nat) (y : α) (h : ∀ x, l[j]? = some x → f y = f x) : (l.set j y).map f = l.map f := by
  apply List.ext_getElem?
  intro i
  rw [List.getElem?_map, List.getElem?_map, List.getElem?_set]
  by_cases hij : j = i
  · subst hij
    rw [if_pos rfl]
    cases hx : l[j]? with
    | none => rw [if_neg (by rw [List.getElem?_eq_none_iff] at hx; omega)]
    | some x => rw [if_pos (List.getElem?_eq_some_iff.1 hx).1, Option.map_some, Option.map_some, h x hx]
  · rw [if_neg hij]
theorem AbI.put {p : Pg} {n k : Nat} {has : List (Nat × ByteArray)} (h : AbI p n k has) (s : List UInt8) (hs : s.length ≤ 492) : ∃ a b p', putP p 1 s = (a, b, p') ∧ AbI p' n (k + 1) has := by
  have hn := h.hp.n4
  have hl := h.hp.len
  by_cases hj : ffL p.pages < n
  · obtain ⟨d', k1, k2, k3⟩ := h.hp.put 1 s (ffL p.pages) (by omega) (by rw [h.gen]; omega) hs rfl hj
    obtain ⟨x, hx, hx0, hx2⟩ := ffL_free (l := p.pages) rfl (by omega) (by omega)
    have hb := h.at_ hx
    have e0 : abF x = (0, 0) := by
      rcases bPages_two hb with e | e
      · exact e
      · unfold abF at e; rw [if_neg (by omega), if_neg (by omega)] at e; rw [e] at hx0; cases hx0
    refine ⟨_, _, _, k1, ⟨⟨k2, h.hp.dead, by simp [hl], hn⟩, h.gen, h.root, h.pins, ?_, h.room, fun j y hy => ?_⟩⟩
    · show (p.pages.set (ffL p.pages) _).map abF = _
      rw [map_set_same, h.pages]
      intro x' hx'
      rw [hx] at hx'; cases hx'
      rw [e0]; rfl
    · obtain ⟨h1, h2, h3⟩ := h.ok j y hy
      refine ⟨h1, h2, ?_⟩
      show cont d' y.1 = _
      rw [k3, if_neg, h3]
      intro e
      have hjm := (List.getElem?_eq_some_iff.1 hy).1
      have hg := bPages_get (1, 0) n has.length j hjm
      rw [← h1, e, hb, e0] at hg
      cases hg
  · have hle := ffL_le (l := p.pages) (by omega)
    have := h.hp.full 1 s (by omega) (by rw [h.gen]; omega) hs (by omega)
    exact ⟨_, _, _, this, h.up (by omega)⟩
theorem AbI.drop {p : Pg} {n k : Nat} {has : List (Nat × ByteArray)} (h : AbI p n k has) (i : Int) : AbI (dropP p i).2 n k has := by
  unfold dropP
  rw [if_neg (by rw [h.hp.dead]; simp)]
  have keep : ∀ y, (∀ x, p.pages[i.toNat]? = some x → abF y = abF x) → AbI { p with pages := p.pages.set i.toNat y } n k has := fun y hy =>
    ⟨⟨h.hp.hl, h.hp.dead, by simp [h.hp.len], h.hp.n4⟩, h.gen, h.root, h.pins, by rw [← h.pages]; exact map_set_same _ _ _ _ hy, h.room, h.ok⟩
  by_cases hh : hasP p i = true
  · rw [if_pos hh]
    cases hx : p.pages[i.toNat]? with
    | none => exact h
    | some x =>
      simp only
      by_cases h2 : x.1 = 2
      · rw [if_pos h2]
        exact keep _ (fun y hy => by rw [hx] at hy; cases hy; unfold abF; rw [if_pos h2]; rfl)
      · rw [if_neg h2]
        by_cases h1 : x.1 = 1
        · rw [if_pos h1]
          exact keep _ (fun y hy => by rw [hx] at hy; cases hy; obtain ⟨a, b⟩ := x; dsimp only at h1; subst h1; rfl)
        · rw [if_neg h1]; exact h
  · rw [if_neg hh]; exact h

/-- The committed pages are read and dropped, one after the other. -/
structure DrI (p : Pg) (n k m j : Nat) (has : List (Nat × ByteArray)) : Prop where
  hp : HP p n k
  gen : p.gen = 2
  root : p.root = [111, 108, 100]
  pins : p.pins = []
  le : j ≤ has.length
  len : has.length = m
  room : m + 2 ≤ n
  pages : p.pages = (0, 0) :: (0, 0) :: (List.replicate j (3, 0) ++ (List.replicate (m - j) (1, 0) ++ List.replicate (n - 2 - m) (0, 0)))
  ok : HasOk p.d has
theorem AbI.abort {p : Pg} {n k : Nat} {has : List (Nat × ByteArray)} (h : AbI p n k has) : DrI (abortP p) n k has.length 0 has :=
  ⟨⟨h.hp.hl, h.hp.dead, by show (p.pages.map abF).length = n; simp [h.hp.len], h.hp.n4⟩, h.gen, h.root, h.pins, Nat.zero_le _, rfl, h.room, by show p.pages.map abF = _; rw [h.pages]; rfl, h.ok⟩
theorem DrI.free {p : Pg} {n k m : Nat} {has : List (Nat × ByteArray)} (h : DrI p n k m 0 has) : freeL p.pages = n - 2 - m := by
  rw [h.pages]; exact bPages_free n m
/-- Read of a page. -/
theorem HP.read {p : Pg} {n k : Nat} (h : HP p n k) (i : Nat) (h2 : 2 ≤ i) (hi : i < n) (x : Nat × Nat) (hx : p.pages[i]? = some x) (hx0 : x.1 ≠ 0) (kind gen : Nat) (s : List UInt8) (hc : cont p.d i = sealB kind gen s) (hk : kind ≤ 255) (hg : gen ≤ 281474976710655) (hs : s.length ≤ 492) :
    readP p (i : Int) = ((kind, s, 0), p) := by
  have hl : liveP p (i : Int) = true := by
    unfold liveP hasP
    rw [h.len, Int.toNat_natCast, List.getD, hx]
    simp; omega
  unfold readP
  rw [if_neg (by rw [h.dead]; simp), if_neg (by rw [hl]; simp), h.hl.read i hi, if_neg (by simp), hc, open_seal kind gen s hk hg hs]
theorem DrI.step {p : Pg} {n k m j : Nat} {has : List (Nat × ByteArray)} (h : DrI p n k m j has) (hm : m ≤ 12) {x : Nat × ByteArray} (hx : has[j]? = some x) :
    readP p (x.1 : Int) = ((j, x.2.data.toList, 0), p) ∧ ∃ p', dropP p (x.1 : Int) = (0, p') ∧ DrI p' n k m (j + 1) has := by
  obtain ⟨h1, h2, h3⟩ := h.ok j x hx
  have hj := (List.getElem?_eq_some_iff.1 hx).1
  have hlen := h.len
  have hroom := h.room
  have e0 : m - j = (m - (j + 1)) + 1 := by omega
  have e1 : p.pages = (0, 0) :: (0, 0) :: (List.replicate j (3, 0) ++ (1, 0) :: (List.replicate (m - (j + 1)) (1, 0) ++ List.replicate (n - 2 - m) (0, 0))) := by rw [h.pages, e0, List.replicate_succ]; rfl
  have hg : p.pages[j + 2]? = some (1, 0) := by
    rw [e1]
    show (List.replicate j (3, 0) ++ (1, 0) :: (List.replicate (m - (j + 1)) (1, 0) ++ List.replicate (n - 2 - m) (0, 0)))[j]? = _
    rw [List.getElem?_append_right (by simp)]; simp
  rw [h1]
  rw [h1] at h3
  refine ⟨h.hp.read (j + 2) (by omega) (by omega) _ hg (by simp) j 2 _ h3 (by omega) (by omega) (by rw [size_toList]; exact h2), _, h.hp.drop1 (j + 2) 0 (by omega) (by omega) hg, ⟨⟨h.hp.hl, h.hp.dead, by show (p.pages.set _ _).length = n; simp [h.hp.len], h.hp.n4⟩, h.gen, h.root, h.pins, by omega, h.len, h.room, ?_, h.ok⟩⟩
  show p.pages.set (j + 2) (3, 0) = _
  rw [e1]
  show (0, 0) :: (0, 0) :: ((List.replicate j (3, 0) ++ (1, 0) :: (List.replicate (m - (j + 1)) (1, 0) ++ List.replicate (n - 2 - m) (0, 0))).set j (3, 0)) = _
  rw [set_rep, rep_snoc]
theorem DrI.last {p : Pg} {n k m : Nat} {has : List (Nat × ByteArray)} (h : DrI p n k m m has) : ∃ p', commitP p [122] = (0, p') ∧ freeL p'.pages = n - 2 - m + m := by
  obtain ⟨d1, c1, c2, c3, c4⟩ := h.hp.commit [122] (by rw [h.gen]; omega) (by simp)
  refine ⟨_, c1, ?_⟩
  unfold settleP
  have hroom := h.room
  rw [h.pages, h.gen, h.pins, Nat.sub_self]
  simp only [List.map_cons, List.map_append, List.map_replicate, List.replicate_zero, List.nil_append]
  have e1 : setl [] (cmF (2 + 1) (3, 0)) = (0, 0) := by decide
  have e2 : setl [] (cmF (2 + 1) (0, 0)) = (0, 0) := by decide
  rw [e1, e2, freeL_two, List.filter_append, List.filter_replicate, List.filter_replicate]
  simp; omega
end

end Go.Proofs.Ytadhibemadgcoaa
