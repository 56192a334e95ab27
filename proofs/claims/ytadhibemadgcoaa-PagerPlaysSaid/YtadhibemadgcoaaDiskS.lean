/- DiskPieces: the map of what was written, in memory. Conditions: none. -/
import Derived.Test.YtadhibemadgcoaaDiskP
import Derived.Test.YtadhibemadgcoaaPgOne
namespace Go.Proofs.Ytadhibemadgcoaa
open Go.RowKit

/-- What was written to a sector, by an int. -/
def wroteI (W : List (Nat × UInt8)) (k : Int) : List UInt8 := (W.filter fun x => (x.1 : Int) == k).map (·.2)
theorem wroteI_nat (W : List (Nat × UInt8)) (i : Nat) : wroteI W (i : Int) = wrote W i := by
  unfold wroteI wrote
  congr 2
  funext x
  rw [Bool.eq_iff_iff]
  simp
  omega
theorem wroteI_snoc (W : List (Nat × UInt8)) (a : Nat) (c : UInt8) (k : Int) : wroteI (W ++ [(a, c)]) k = if k = (a : Int) then wroteI W k ++ [c] else wroteI W k := by
  unfold wroteI
  rw [List.filter_append, List.map_append]
  by_cases h : k = (a : Int)
  · rw [if_pos h]; simp [h]
  · rw [if_neg h]
    have : ¬ (a : Int) = k := fun e => h e.symm
    simp [this]
theorem wroteI_length (W : List (Nat × UInt8)) (k : Int) : (wroteI W k).length ≤ W.length := by
  unfold wroteI; rw [List.length_map]; exact List.length_filter_le _ _

/-- What the map of written bytes holds, and where. -/
structure Mw (w : World) (mb n : Nat) (w0 : World) (M : Nat → Prop) (W : List (Nat × UInt8)) (f : Int → Value) : Prop where
  at_ : MapAt Try.prog 3 w mb n (.slice none 0 0) f
  own : ∀ k : Int, w.ownsRow 0 5 1 (f k) (wroteI W k).length (bcells (wroteI W k))
  sep : ∀ k k' : Int, k ≠ k' → ∀ b, (f k).ownBlock = some b → (f k').ownBlock ≠ some b
  no : ∀ k b, (f k).ownBlock = some b → b ≠ mb ∧ w0.heap.size ≤ b ∧ ¬ M b
  nom : ¬ M mb
  new : w0.heap.size ≤ mb

theorem Mw.start {w w0 : World} {M : Nat → Prop} (hM : ∀ k, M k → k < w.heap.size) (h0 : w0.heap.size ≤ w.heap.size) : Mw (w.alloc (.map #[] 0)) w.heap.size 0 w0 M [] (fun _ => .slice none 0 0) where
  at_ := MapAt.made _ _ _ _
  own := fun _ => ⟨rfl, .inl ⟨rfl, rfl⟩⟩
  sep := fun _ _ _ b h => by cases h
  no := fun _ b h => by cases h
  nom := fun h => by have := hM _ h; omega
  new := h0
theorem Mw.ch {S : Nat → Prop} {w w' w0 : World} {mb n : Nat} {M M' : Nat → Prop} {W : List (Nat × UInt8)} {f : Int → Value} (h : Mw w mb n w0 M W f) (hc : Ch S w w') (hS : ∀ k, S k → M k) (hM : ∀ k, M' k → M k ∨ w.heap.size ≤ k) : Mw w' mb n w0 M' W f := by
  have lt : ∀ k b, (f k).ownBlock = some b → b < w.heap.size := fun k b hb => ((h.own k).lt b hb).2
  exact {
    at_ := h.at_.ch hc (fun s => h.nom (hS _ s))
    own := fun k => ownsRow_frame (h.own k) fun b hb => hc.block b (lt k b hb) (fun s => (h.no k b hb).2.2 (hS _ s))
    sep := h.sep
    no := fun k b hb => ⟨(h.no k b hb).1, (h.no k b hb).2.1, fun m => by
      rcases hM b m with m | m
      · exact (h.no k b hb).2.2 m
      · have := lt k b hb; omega⟩
    nom := fun m => by
      rcases hM mb m with m | m
      · exact h.nom m
      · have := h.at_.lt; omega
    new := h.new }
/-- One more byte. -/
theorem Mw.step {w w1 w3 w4 w0 : World} {mb n : Nat} {M : Nat → Prop} {W : List (Nat × UInt8)} {f : Int → Value} (h : Mw w mb n w0 M W f) (hM : ∀ k, M k → k < w.heap.size) (hz : w0.heap.size ≤ w.heap.size) (c1 : Ch (fun _ => False) w w1) (a : Nat) (c : UInt8) (v' : Value)
    (hown : w3.ownsRow 0 5 1 v' ((wroteI W a).length + 1) (bcells (wroteI W a) ++ [.int .u8 (c.toNat : Int)])) (c3 : Ch (fun k => (f a).ownBlock = some k) w1 w3) (hv : v'.ownBlock = (f a).ownBlock ∨ ∀ k, v'.ownBlock = some k → w1.heap.size ≤ k)
    (hup : MapAt Try.prog 3 w4 mb (n + 1) (.slice none 0 0) (fun q => if q = (a : Int) then v' else f q)) (c4 : Ch (fun q => q = mb) w3 w4) :
    Mw w4 mb (n + 1) w0 M (W ++ [(a, c)]) (fun q => if q = (a : Int) then v' else f q) ∧ Ch (fun k => k = mb ∨ (f a).ownBlock = some k) w w4 := by
  have lt : ∀ k b, (f k).ownBlock = some b → b < w.heap.size := fun k b hb => ((h.own k).lt b hb).2
  have z1 := c1.size
  have z3 := c3.size
  have hvn : ∀ b, v'.ownBlock = some b → b ≠ mb ∧ w0.heap.size ≤ b ∧ ¬ M b := by
    intro b hb
    rcases hv with e | e
    · rw [e] at hb; exact h.no _ b hb
    · have := e b hb
      have l1 := h.at_.lt
      exact ⟨by omega, by omega, fun m => by have := hM b m; omega⟩
  refine ⟨⟨hup, fun k => ?_, fun k k' hne b hb hb' => ?_, fun k b hb => ?_, h.nom, h.new⟩, ?_⟩
  · rw [wroteI_snoc]
    by_cases hk : k = (a : Int)
    · subst hk
      simp only [if_true]
      rw [bcells_append, List.length_append]
      refine ownsRow_frame hown fun b hb => c4.block b (hown.lt b hb).2 (fun e => (hvn b hb).1 e)
    · simp only [if_neg hk]
      refine ownsRow_frame (h.own k) fun b hb => ?_
      have hlt := lt k b hb
      rw [c4.block b (by omega) (fun e => (h.no k b hb).1 e), c3.block b (by omega) (fun e => h.sep k a hk b hb e)]
      exact c1.block b hlt (fun x => x)
  · by_cases hk : k = (a : Int)
    · subst hk
      simp only [if_true] at hb
      rw [if_neg (Ne.symm hne)] at hb'
      rcases hv with e | e
      · rw [e] at hb; exact h.sep _ k' hne b hb hb'
      · have := e b hb; have := lt k' b hb'; omega
    · simp only [if_neg hk] at hb
      by_cases hk' : k' = (a : Int)
      · subst hk'
        simp only [if_true] at hb'
        rcases hv with e | e
        · rw [e] at hb'; exact h.sep k _ hne b hb hb'
        · have := e b hb'; have := lt k b hb; omega
      · simp only [if_neg hk'] at hb'
        exact h.sep k k' hne b hb hb'
  · by_cases hk : k = (a : Int)
    · simp only [if_pos hk] at hb
      exact hvn b hb
    · simp only [if_neg hk] at hb
      exact h.no k b hb
  · have x1 : Ch (fun k => k = mb ∨ (f a).ownBlock = some k) w w3 := (c1.mono (T := fun k => k = mb ∨ (f a).ownBlock = some k) (fun _ _ h => h.elim)).then c3 (fun i _ e => .inr e)
    exact x1.then c4 (fun i _ e => .inl e)

/-- What holds while the writes go on. -/
def PcI (w0 wr : World) (p pb mb : Nat) (L : List (List UInt8)) (db : Dk) (Mb : Nat → Prop) (j : Nat) : Prop :=
  ∃ d M F W f, DiskAt wr p d M F ∧ Wr d L W (81 + j) ∧ Mw wr mb j w0 F W f ∧ (∀ k, M k → w0.heap.size ≤ k) ∧ DiskAt wr pb db Mb Mb ∧ (∀ k, Mb k → ¬ M k ∧ k ≠ mb ∧ ∀ q, (f q).ownBlock ≠ some k) ∧ Ch (fun _ => False) w0 wr

/-- Behind a write to the disk. -/
theorem Mw.wrote {w0 wr w2 w3 : World} {p pb mb j : Nat} {M F M4 F4 Mb : Nat → Prop} {W : List (Nat × UInt8)} {f : Int → Value} {db d4 : Dk} (h : Mw wr mb j w0 F W f) (hM : ∀ k, M k → w0.heap.size ≤ k) (hMF : ∀ k, M k → F k) (hDb : DiskAt wr pb db Mb Mb)
    (hMb : ∀ k, Mb k → ¬ M k ∧ k ≠ mb ∧ ∀ q, (f q).ownBlock ≠ some k) (hC : Ch (fun _ => False) w0 wr) (c2 : Ch (fun _ => False) wr w2) (c4 : Ch M w2 w3) (hm4 : Fresh w2 M M4) (hf4 : Fresh w2 F F4) (_hD4 : DiskAt w3 p d4 M4 F4) :
    Mw w3 mb j w0 F4 W f ∧ (∀ k, M4 k → w0.heap.size ≤ k) ∧ DiskAt w3 pb db Mb Mb ∧ (∀ k, Mb k → ¬ M4 k ∧ k ≠ mb ∧ ∀ q, (f q).ownBlock ≠ some k) ∧ Ch (fun _ => False) w0 w3 := by
  have z2 := c2.size
  have z0 := hC.size
  refine ⟨(h.ch c2 (fun _ h => h.elim) (fun k h => .inl h)).ch c4 (fun k h => hMF k h) hf4, fun k hk => ?_, (hDb.ch c2 (fun _ _ h => h)).ch c4 (fun k hk => (hMb k hk).1), fun k hk => ⟨fun hm => ?_, (hMb k hk).2⟩, (hC.trans c2).then c4 (fun i hi e => by have := hM i e; omega)⟩
  · rcases hm4 k hk with h | h
    · exact hM k h
    · omega
  · rcases hm4 k hm with h | h
    · exact (hMb k hk).1 h
    · have := hDb.lt k hk; omega
theorem DiskAt.ltF {w : World} {p : Nat} {d : Dk} {M F : Nat → Prop} (h : DiskAt w p d M F) : (∀ k, F k → k < w.heap.size) ∧ ∀ k, M k → F k := by
  obtain ⟨_, _, _, _, _, _, _, _, h4, h5⟩ := h; exact ⟨h5, h4⟩
theorem Mw.mono {w w0 : World} {mb n m : Nat} {M : Nat → Prop} {W : List (Nat × UInt8)} {f : Int → Value} (h : Mw w mb n w0 M W f) (hm : n ≤ m) : Mw w mb m w0 M W f := ⟨h.at_.mono hm, h.own, h.sep, h.no, h.nom, h.new⟩

theorem pieces_at {d : Dk} {L : List (List UInt8)} {W : List (Nat × UInt8)} {j : Nat} (h : Wr d L W j) (hs : ∀ l ∈ L, l.length = 512) (kept : List (Int × Int)) (hc : Sane (crashD d kept)) (i : Nat) (hi : i < L.length) :
    ∃ now was : List UInt8, readD (crashD d kept) (i : Int) = (0, now) ∧ L.getD i [] = was ∧ was.length = 512 ∧ now.length = 512 ∧ ∀ (k : Nat) (x : UInt8), now[k]? = some x → was[k]? = some x ∨ x ∈ wrote W i := by
  obtain ⟨now, was, h1, h2, h3, h4⟩ := pieces_read h hs kept i hi
  have hl : now.length = 512 := by
    have hL : i < (crashD d kept).L.length := by
      have := keeps_length d.wait kept d.L
      show i < (kept.foldl (keepD d.wait) d.L).length
      rw [this, h.same]; exact hi
    rw [readD, if_neg (by omega), if_neg (by simp [crashD])] at h1
    simp only [Prod.mk.injEq] at h1
    have e : readW (crashD d kept).wait (Int.toNat i) ((crashD d kept).L.getD (Int.toNat i) []) = (crashD d kept).L.getD i [] := rfl
    rw [← h1.2, e, List.getD, List.getElem?_eq_getElem hL, Option.getD_some]
    exact hc.secs _ (List.getElem_mem _)
  exact ⟨now, was, h1, h2, h3, hl, h4 hl⟩
theorem quiet_read {d : Dk} (hw : d.wait = []) (hg : d.gone = false) (i : Nat) (hi : i < d.L.length) : readD d (i : Int) = (0, d.L.getD i []) := by
  rw [readD, if_neg (by omega), if_neg (by simp [hg]), hw]; rfl
/-- Where bytes lie. -/
theorem Bts.addr {w : World} {a : Option Addr} {n cap : Nat} {l : List UInt8} (h : Bts w (.slice a n cap) l) (h0 : 0 < n) (hl : l.length = n) : ∃ b off, a = some ⟨b, off, none⟩ := by
  rcases h with ⟨a', c, e, rfl⟩ | ⟨b, off, c, cs, e, fz, h, _⟩
  · simp at hl; omega
  · cases h; exact ⟨b, off, rfl⟩
theorem Bts.cell {w : World} {b off n cap : Nat} {l : List UInt8} (h : Bts w (.slice (some ⟨b, off, none⟩) n cap) l) {j : Nat} {x : UInt8} (hx : l[j]? = some x) : w.cell? ⟨b, off + j, none⟩ = some (.int .u8 (x.toNat : Int)) := by
  rcases h with ⟨a', c, e, rfl⟩ | ⟨b', off', c, cs, e, fz, h, hc, hb, hcs⟩
  · simp at hx
  · cases h
    obtain ⟨hj, rfl⟩ := List.getElem?_eq_some_iff.1 hx
    rw [cell_blk hb, hcs j hj]
/-- What the reads lean on. -/
def Rd (w0 wr : World) (pb po mb j : Nat) (db dc : Dk) (Mb Mo F : Nat → Prop) (W : List (Nat × UInt8)) (f : Int → Value) : Prop :=
  DiskAt wr pb db Mb Mb ∧ DiskAt wr po dc Mo Mo ∧ Mw wr mb j w0 F W f ∧ Ch (fun _ => False) w0 wr
theorem Rd.ch {w0 wr w' : World} {pb po mb j : Nat} {db dc : Dk} {Mb Mo F : Nat → Prop} {W : List (Nat × UInt8)} {f : Int → Value} (h : Rd w0 wr pb po mb j db dc Mb Mo F W f) (hc : Ch (fun _ => False) wr w') : Rd w0 w' pb po mb j db dc Mb Mo F W f :=
  ⟨h.1.ch hc (fun _ _ h => h), h.2.1.ch hc (fun _ _ h => h), h.2.2.1.ch hc (fun _ h => h.elim) (fun _ h => .inl h), h.2.2.2.trans hc⟩

end Go.Proofs.Ytadhibemadgcoaa
