/- Slices of strings and of pages; pages that are begun: plain laws. Conditions: as each lemma says. -/
import Derived.Test.YtadhibemadgcoaaPgT
import Derived.Maps.AppendAt
namespace Go.Proofs.Ytadhibemadgcoaa
open Go.RowKit

/-- v is a slice of strings that reads as l. -/
def Strs (w : World) (v : Value) (l : List ByteArray) : Prop :=
  (∃ a cap, v = .slice a 0 cap ∧ l = []) ∨ ∃ b off cap cs e fz, v = .slice (some ⟨b, off, none⟩) l.length cap ∧ w.heap[b]? = some (.cells cs e fz) ∧
    ∀ (j : Nat) (x : ByteArray), l[j]? = some x → cs[off + j]? = some (.string x)
theorem Strs.ch {S : Nat → Prop} {w w' : World} {v : Value} {l : List ByteArray} (h : Strs w v l) (hc : Ch S w w') (hn : ∀ k, k < w.heap.size → ¬ S k) : Strs w' v l := by
  rcases h with h | ⟨b, off, cap, cs, e, fz, rfl, hb, hcs⟩
  · exact .inl h
  · exact .inr ⟨b, off, cap, cs, e, fz, rfl, hc.keep hb (hn b (blk_lt hb)), hcs⟩
theorem Strs.form {w : World} {v : Value} {l : List ByteArray} (h : Strs w v l) : ∃ a cap, v = .slice a l.length cap := by
  rcases h with ⟨a, cap, rfl, rfl⟩ | ⟨b, off, cap, cs, e, fz, rfl, _⟩
  · exact ⟨a, cap, rfl⟩
  · exact ⟨_, cap, rfl⟩
theorem Strs.get {w : World} {a : Option Addr} {n cap : Nat} {l : List ByteArray} (h : Strs w (.slice a n cap) l) {j : Nat} {x : ByteArray} (hx : l[j]? = some x) :
    ∃ b off, a = some ⟨b, off, none⟩ ∧ w.cell? ⟨b, off + j, none⟩ = some (.string x) ∧ b < w.heap.size := by
  rcases h with ⟨_, _, h, rfl⟩ | ⟨b, off, c, cs, e, fz, h, hb, hcs⟩
  · simp at hx
  · cases h
    exact ⟨b, off, rfl, by rw [cell_blk hb]; exact hcs j x hx, blk_lt hb⟩
/-- v is a slice of ints that reads as l. -/
def Ints (w : World) (v : Value) (l : List Int) : Prop :=
  (∃ a cap, v = .slice a 0 cap ∧ l = []) ∨ ∃ b off cap cs e fz, v = .slice (some ⟨b, off, none⟩) l.length cap ∧ w.heap[b]? = some (.cells cs e fz) ∧
    ∀ (j : Nat) (x : Int), l[j]? = some x → cs[off + j]? = some (.int .i64 x)
theorem Ints.ch {S : Nat → Prop} {w w' : World} {v : Value} {l : List Int} (h : Ints w v l) (hc : Ch S w w') (hn : ∀ k, k < w.heap.size → ¬ S k) : Ints w' v l := by
  rcases h with h | ⟨b, off, cap, cs, e, fz, rfl, hb, hcs⟩
  · exact .inl h
  · exact .inr ⟨b, off, cap, cs, e, fz, rfl, hc.keep hb (hn b (blk_lt hb)), hcs⟩
theorem Ints.form {w : World} {v : Value} {l : List Int} (h : Ints w v l) : ∃ a cap, v = .slice a l.length cap := by
  rcases h with ⟨a, cap, rfl, rfl⟩ | ⟨b, off, cap, cs, e, fz, rfl, _⟩
  · exact ⟨a, cap, rfl⟩
  · exact ⟨_, cap, rfl⟩
theorem Ints.get {w : World} {a : Option Addr} {n cap : Nat} {l : List Int} (h : Ints w (.slice a n cap) l) {j : Nat} {x : Int} (hx : l[j]? = some x) :
    ∃ b off, a = some ⟨b, off, none⟩ ∧ w.cell? ⟨b, off + j, none⟩ = some (.int .i64 x) ∧ b < w.heap.size := by
  rcases h with ⟨_, _, h, rfl⟩ | ⟨b, off, c, cs, e, fz, h, hb, hcs⟩
  · simp at hx
  · cases h
    exact ⟨b, off, rfl, by rw [cell_blk hb]; exact hcs j x hx, blk_lt hb⟩

/-- The cells of pages of a law's. -/
def hasCells (l : List (Nat × ByteArray)) : List Value := l.flatMap fun x => [.int .i64 (x.1 : Int), .string x.2]
theorem hasCells_snoc (l : List (Nat × ByteArray)) (x : Nat × ByteArray) : hasCells (l ++ [x]) = hasCells l ++ [.int .i64 (x.1 : Int), .string x.2] := by simp [hasCells]
theorem hasCells_get (l : List (Nat × ByteArray)) : ∀ (j : Nat) (x : Nat × ByteArray), l[j]? = some x → (hasCells l)[j * 2]? = some (.int .i64 (x.1 : Int)) ∧ (hasCells l)[j * 2 + 1]? = some (.string x.2) := by
  induction l with
  | nil => intro j x h; simp at h
  | cons y l ih =>
    intro j x h
    have e : hasCells (y :: l) = .int .i64 (y.1 : Int) :: .string y.2 :: hasCells l := by simp [hasCells]
    rw [e]
    cases j with
    | zero => simp at h; subst h; exact ⟨rfl, rfl⟩
    | succ j =>
      have := ih j x (by simpa using h)
      rw [show (j + 1) * 2 = j * 2 + 1 + 1 by omega]
      exact this
/-- v is a slice of pages, in room of its own from base on, that is none of Q. -/
def HasAt (w : World) (base : Nat) (Q : Nat → Prop) (v : Value) (n : Nat) (l : List (Nat × ByteArray)) : Prop :=
  w.ownsRow base 96 2 v n (hasCells l) ∧ l.length = n ∧ ∀ k, v.ownBlock = some k → ¬ Q k
theorem HasAt.form {w : World} {base n : Nat} {Q : Nat → Prop} {v : Value} {l : List (Nat × ByteArray)} (h : HasAt w base Q v n l) : ∃ a cap, v = .slice a n cap := by
  rcases h.1.2 with ⟨rfl, h0⟩ | ⟨g, cap, cur, rfl, _⟩
  · exact ⟨none, 0, by rw [h0]⟩
  · exact ⟨_, cap, rfl⟩
theorem HasAt.start (w : World) (base : Nat) (Q : Nat → Prop) : HasAt w base Q (.slice none 0 0) 0 [] := ⟨⟨rfl, .inl ⟨rfl, rfl⟩⟩, rfl, fun k hk => by cases hk⟩
theorem HasAt.get {w : World} {base n m cap : Nat} {Q : Nat → Prop} {a : Option Addr} {l : List (Nat × ByteArray)} (h : HasAt w base Q (.slice a m cap) n l) {j : Nat} {x : Nat × ByteArray} (hx : l[j]? = some x) :
    ∃ b, a = some ⟨b, 0, none⟩ ∧ w.cell? ⟨b, j * 2, none⟩ = some (.int .i64 (x.1 : Int)) ∧ w.cell? ⟨b, j * 2 + 1, none⟩ = some (.string x.2) ∧ b < w.heap.size := by
  obtain ⟨h1, h2, _⟩ := h
  have hj := (List.getElem?_eq_some_iff.1 hx).1
  rcases h1.2 with ⟨h, h0⟩ | ⟨g, c, cur, h, hb, hg, hc, _, hs, ht⟩
  · omega
  · cases h
    have := hasCells_get l j x hx
    rw [← ht, List.getElem?_take, List.getElem?_take, if_pos (by omega), if_pos (by omega)] at this
    exact ⟨g, rfl, by rw [cell_blk hg]; simpa using this.1, by rw [cell_blk hg]; simpa using this.2, blk_lt hg⟩
theorem HasAt.ch {w w' : World} {base n : Nat} {Q Q' S : Nat → Prop} {v : Value} {l : List (Nat × ByteArray)} (h : HasAt w base Q v n l) (hc : Ch S w w') (hs : ∀ k, S k → k < w.heap.size → Q k) (hf : Fresh w Q Q') : HasAt w' base Q' v n l := by
  obtain ⟨h1, h2, h3⟩ := h
  have hlt : ∀ k, v.ownBlock = some k → k < w.heap.size := fun k hk => (h1.lt k hk).2
  refine ⟨ownsRow_frame h1 (fun k hk => hc.block k (hlt k hk) (fun hS => h3 k hk (hs k hS (hlt k hk)))), h2, fun k hk hq => ?_⟩
  rcases hf k hq with h | h
  · exact h3 k hk h
  · have := hlt k hk; omega
theorem Try.info96 : (Try.prog.info? 96).map (fun i => (i.zero, i.size, i.bytes)) = some (some (.agg #[.int .i64 0, .string ⟨#[]⟩]), 2, 24) := by kernel_rfl
/-- append of a page. -/
theorem HasAt.snoc {w : World} {base n : Nat} {Q : Nat → Prop} {v : Value} {l : List (Nat × ByteArray)} (h : HasAt w base Q v n l) (hq : ∀ k, Q k → k < w.heap.size) (hn : n ≤ 1000) (hb : base ≤ w.heap.size) (x : Nat × ByteArray) (g : Nat) (h0 : w.cell? ⟨g, 0, none⟩ = some (.int .i64 (x.1 : Int))) (h1 : w.cell? ⟨g, 1, none⟩ = some (.string x.2)) (ty : TypeId) (c : Nat) :
    ∃ v' w', (Builtin.append_ #[91, 91] ty #[v, .slice (some ⟨g, 0, none⟩) 1 c]).run Try.prog w = .ok v' w' ∧ HasAt w' base Q v' (n + 1) (l ++ [x]) ∧ Ch (fun k => v.ownBlock = some k) w w' := by
  obtain ⟨k1, k2, k3⟩ := h
  obtain ⟨i, hi, hzz⟩ := Option.map_eq_some_iff.1 Try.info96
  simp only [Prod.mk.injEq] at hzz
  obtain ⟨hz, hs, hby⟩ := hzz
  obtain ⟨v', w', r1, r2, r3, _, r5⟩ := run_append_own_at (P := Try.prog) (w := w) base 91 ty 96 i (.agg #[.int .i64 0, .string ⟨#[]⟩]) 2 24 Try.underlying91 hi hz hs hby rfl (by omega) v n (hasCells l) k1 ⟨g, 0, none⟩ 1 c [.int .i64 (x.1 : Int), .string x.2] rfl
    (by
      intro j u hu
      rcases j with _ | _ | j
      · simp at hu; subst hu; rw [add_plain]; exact h0
      · simp at hu; subst hu; rw [add_plain]; exact h1
      · simp at hu) (by intro u hu; simp at hu; rcases hu with rfl | rfl <;> rfl) (by simp only [maxLen]; omega) (by omega) hb
  refine ⟨v', w', r1, ⟨by rw [hasCells_snoc]; exact r2, by simp [k2], fun k hk hQ => ?_⟩, (Ch.refl _ w).grown r3 (fun k hk _ => hk)⟩
  rcases r5 with e | e
  · exact k3 k (by rw [← e]; exact hk) hQ
  · rw [e] at hk
    have := hq k hQ
    simp only [Option.some.injEq] at hk
    omega

/-- What is put of a string. -/
def cutB (s : ByteArray) : ByteArray := s.extract 0 (min s.size 492)
theorem cutB_size (s : ByteArray) : (cutB s).size ≤ 492 := by
  unfold cutB; rw [ByteArray.size_extract]; omega
/-- The pages that lie on a disk. -/
def HasOk (d : Dk) (has : List (Nat × ByteArray)) : Prop := ∀ (j : Nat) (x : Nat × ByteArray), has[j]? = some x → x.1 = j + 2 ∧ x.2.size ≤ 492 ∧ cont d x.1 = sealB j 2 x.2.data.toList
theorem RoomAt.put {p : Pg} {n m : Nat} (h : RoomAt p n m) (hm : m + 2 < n) (kind : Nat) (hk : kind ≤ 255) (s : List UInt8) (hs : s.length ≤ 492) :
    ∃ p', putP p kind s = (m + 2, 0, p') ∧ RoomAt p' n (m + 1) ∧ ∀ i, cont p'.d i = if i = m + 2 then sealB kind 2 s else cont p.d i := by
  have e0 : n - 2 - m = (n - 2 - (m + 1)) + 1 := by omega
  have e1 : p.pages = (0, 0) :: (0, 0) :: (List.replicate m (2, 0) ++ (0, 0) :: List.replicate (n - 2 - (m + 1)) (0, 0)) := by rw [h.pages, e0, List.replicate_succ]
  have e2 : ffL p.pages = m + 2 := by rw [e1, ffL_two, find_rep _ _ (by simp), List.findIdx_cons]; simp; omega
  obtain ⟨d', k1, k2, k3⟩ := h.hp.put kind s (m + 2) hk (by rw [h.gen]; omega) hs e2 hm
  have e3 : p.pages.set (m + 2) (2, (p.pages.getD (m + 2) (0, 0)).2) = (0, 0) :: (0, 0) :: (List.replicate (m + 1) (2, 0) ++ List.replicate (n - 2 - (m + 1)) (0, 0)) := by
    have g : (p.pages.getD (m + 2) (0, 0)).2 = 0 := by
      rw [e1]
      show ((List.replicate m (2, 0) ++ (0, 0) :: List.replicate (n - 2 - (m + 1)) (0, 0)).getD m (0, 0)).2 = 0
      rw [List.getD, List.getElem?_append_right (by simp)]; simp
    rw [g, e1]
    show (0, 0) :: (0, 0) :: ((List.replicate m (2, 0) ++ (0, 0) :: List.replicate (n - 2 - (m + 1)) (0, 0)).set m (2, 0)) = _
    rw [set_rep, rep_snoc]
  rw [e3] at k1
  rw [h.gen] at k3
  refine ⟨_, k1, ⟨⟨k2, h.hp.dead, ?_, h.hp.n4⟩, h.gen, h.pins, rfl⟩, k3⟩
  simp; have := h.hp.n4; omega
theorem HasOk.snoc {d d' : Dk} {has : List (Nat × ByteArray)} (h : HasOk d has) (s : ByteArray) (hs : s.size ≤ 492) (hc : ∀ i, cont d' i = if i = has.length + 2 then sealB has.length 2 s.data.toList else cont d i) : HasOk d' (has ++ [(has.length + 2, s)]) := by
  intro j x hx
  by_cases hj : j < has.length
  · rw [List.getElem?_append_left hj] at hx
    obtain ⟨h1, h2, h3⟩ := h j x hx
    exact ⟨h1, h2, by rw [hc, if_neg (by omega)]; exact h3⟩
  · have hlt := (List.getElem?_eq_some_iff.1 hx).1
    simp at hlt
    obtain rfl : j = has.length := by omega
    simp at hx
    subst hx
    exact ⟨rfl, hs, by rw [hc]; simp⟩
/-- A pager with these pages, which are committed. -/
structure Begun (p : Pg) (n : Nat) (has : List (Nat × ByteArray)) : Prop where
  hp : HP p n 2000
  gen : p.gen = 2
  root : p.root = [111, 108, 100]
  pins : p.pins = []
  ops : p.ops = 0
  pages : p.pages = (0, 0) :: (0, 0) :: (List.replicate has.length (1, 0) ++ List.replicate (n - 2 - has.length) (0, 0))
  len : has.length ≤ 12
  ok : HasOk p.d has
theorem RoomAt.begun {p : Pg} {n : Nat} {has : List (Nat × ByteArray)} (h : RoomAt p n has.length) (ho : p.ops = 0) (hl : has.length ≤ 12) (hn : has.length + 2 ≤ n) (hok : HasOk p.d has) : ∃ p', commitP p [111, 108, 100] = (0, p') ∧ Begun p' n has := by
  obtain ⟨d1, c1, c2, c3, c4⟩ := h.hp.commit [111, 108, 100] (by rw [h.gen]; omega) (by simp)
  rw [h.gen, h.pages] at c1
  rw [h.gen] at c4
  refine ⟨_, c1, ⟨⟨c2.up (by omega), h.hp.dead, ?_, h.hp.n4⟩, rfl, rfl, h.pins, ho, ?_, hl, fun j x hx => ?_⟩⟩
  · simp [settleP]; have := h.hp.n4; omega
  · unfold settleP; simp [h.pins, cmF, setl]
  · obtain ⟨h1, h2, h3⟩ := hok j x hx
    have hj := (List.getElem?_eq_some_iff.1 hx).1
    exact ⟨h1, h2, by show cont d1 x.1 = _; rw [c4 _ (by omega), if_neg (by omega)]; exact h3⟩

end Go.Proofs.Ytadhibemadgcoaa
