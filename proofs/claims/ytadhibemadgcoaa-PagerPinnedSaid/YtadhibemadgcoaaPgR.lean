/- A pager that lies in new room, and its calls with power. Conditions: as each lemma says. -/
import Derived.Test.YtadhibemadgcoaaPgQ
namespace Go.Proofs.Ytadhibemadgcoaa
open Go.RowKit

/-- The pager p, its blocks Q, all new since w0. -/
def PZ (w0 w : World) (pp dp : Nat) (p : Pg) (Q : Nat → Prop) : Prop :=
  ∃ gb mb M F O, PgX w pp dp gb mb p M F O ∧ (∀ k, F k → Q k) ∧ (∀ k, O k → Q k) ∧ (∀ k, Q k → w0.heap.size ≤ k ∧ k < w.heap.size) ∧ Ch (fun _ => False) w0 w
def ZPost (w0 w : World) (pp dp : Nat) (p : Pg) (Q : Nat → Prop) (w' : World) : Prop := ∃ Q', PZ w0 w' pp dp p Q' ∧ Fresh w Q Q' ∧ Ch Q w w'
theorem ZPost.mk' {w0 w w' : World} {pp dp gb mb : Nat} {p p' : Pg} {Q F O M' F' : Nat → Prop} (hq : PZ w0 w pp dp p Q) (hF : ∀ k, F k → Q k) (hO : ∀ k, O k → Q k) (hx : PgX w' pp dp gb mb p' M' F' O) (hf : Fresh w F F') (hc : Ch Q w w') : ZPost w0 w pp dp p' Q w' := by
  obtain ⟨_, _, _, _, _, _, _, _, h4, h5⟩ := hq
  have hlt := (disk_ltF hx.2.1).1
  refine ⟨fun k => Q k ∨ (w.heap.size ≤ k ∧ k < w'.heap.size), ⟨gb, mb, M', F', O, hx, fun k hk => ?_, fun k hk => .inl (hO k hk), fun k hk => ?_, h5.then hc (fun i hi h => by have := h4 i h; omega)⟩, fun k hk => ?_, hc⟩
  · rcases hf k hk with h | h
    · exact .inl (hF k h)
    · exact .inr ⟨h, hlt k hk⟩
  · have := hc.size
    have := h5.size
    rcases hk with h | h
    · have := h4 k h; omega
    · omega
  · rcases hk with h | h
    · exact .inl h
    · exact .inr h.1
theorem PZ.at_ {w0 w : World} {pp dp : Nat} {p : Pg} {Q : Nat → Prop} (h : PZ w0 w pp dp p Q) : ∃ M F O, PgAt w pp dp p M F O := by
  obtain ⟨gb, mb, M, F, O, h1, _⟩ := h; exact ⟨M, F, O, gb, mb, h1⟩
theorem PZ.base {w0 w : World} {pp dp : Nat} {p : Pg} {Q : Nat → Prop} (h : PZ w0 w pp dp p Q) : Ch (fun _ => False) w0 w := by
  obtain ⟨gb, mb, M, F, O, _, _, _, _, h5⟩ := h; exact h5
theorem PZ.lt {w0 w : World} {pp dp : Nat} {p : Pg} {Q : Nat → Prop} (h : PZ w0 w pp dp p Q) : ∀ k, Q k → w0.heap.size ≤ k ∧ k < w.heap.size := by
  obtain ⟨gb, mb, M, F, O, _, _, _, h4, _⟩ := h; exact h4
/-- Other blocks turn. -/
theorem PZ.ch {w0 w w' : World} {pp dp : Nat} {p : Pg} {Q S : Nat → Prop} (h : PZ w0 w pp dp p Q) (hc : Ch S w w') (hs : ∀ k, Q k → ¬ S k) (h0 : ∀ k, k < w0.heap.size → ¬ S k) : PZ w0 w' pp dp p Q := by
  obtain ⟨gb, mb, M, F, O, h1, h2, h3, h4, h5⟩ := h
  refine ⟨gb, mb, M, F, O, h1.ch hc (fun k hk => hs k (h2 k hk)) (fun k hk => hs k (h3 k hk)), h2, h3, fun k hk => ⟨(h4 k hk).1, Nat.lt_of_lt_of_le (h4 k hk).2 hc.size⟩, h5.then hc (fun i hi h => h0 i hi h)⟩
theorem ZPost.trans {w0 w1 w2 w3 : World} {pp dp : Nat} {p : Pg} {Q Q1 : Nat → Prop} (h1 : Fresh w1 Q Q1) (hc : Ch Q w1 w2) (h : ZPost w0 w2 pp dp p Q1 w3) : ZPost w0 w1 pp dp p Q w3 := by
  obtain ⟨Q2, k1, k2, k3⟩ := h
  refine ⟨Q2, k1, fun k hk => ?_, hc.then k3 (fun i hi h => ?_)⟩
  · rcases k2 k hk with h | h
    · exact h1 k h
    · have := hc.size; exact .inr (by omega)
  · rcases h1 i h with h | h
    · exact h
    · omega
theorem PZ.post {w0 w w' : World} {pp dp : Nat} {p : Pg} {Q : Nat → Prop} (h : PZ w0 w pp dp p Q) (hc : Ch (fun _ => False) w w') : ZPost w0 w pp dp p Q w' :=
  ⟨Q, h.ch hc (fun _ _ h => h) (fun _ _ h => h), Fresh.refl _ _, hc.mono (fun _ _ h => h.elim)⟩

section
variable {w0 : World} {pp dp : Nat} {p : Pg} {Q : Nat → Prop} {n k : Nat}
theorem put_z (kind : Int) (s : ByteArray) (w : World) (h : PZ w0 w pp dp p Q) (hp : HP p n k) (hk : k ≤ 900000) :
    Calls Try.prog 57 #[.pointer (some ⟨pp, 0, none⟩), .int .i64 kind, .string s] w fun e w' => e = .returned (.tuple #[.int .i64 ((putP p kind s.data.toList).1 : Nat), .int .i64 ((putP p kind s.data.toList).2.1 : Nat)]) ∧ ZPost w0 w pp dp (putP p kind s.data.toList).2.2 Q w' := by
  obtain ⟨gb, mb, M, F, O, h1, h2, h3, h4, h5⟩ := id h
  refine (put_any2 kind s w h1 (by have := hp.hl.steps; omega) (by have := hp.hl.wl; omega)).mono ?_
  rintro e w' ⟨rfl, M', F', k1, k2, k3, k4⟩
  exact ⟨rfl, ZPost.mk' h h2 h3 k1 k3 (k4.mono fun i _ hi => hi.elim (fun hi => h2 i ((disk_ltF h1.2.1).2 i hi)) (h3 i))⟩
theorem commit_z (s : ByteArray) (w : World) (h : PZ w0 w pp dp p Q) (hp : HP p n k) (hk : k ≤ 900000) :
    Calls Try.prog 58 #[.pointer (some ⟨pp, 0, none⟩), .string s] w fun e w' => e = .returned (.int .i64 ((commitP p s.data.toList).1 : Nat)) ∧ ZPost w0 w pp dp (commitP p s.data.toList).2 Q w' := by
  obtain ⟨gb, mb, M, F, O, h1, h2, h3, h4, h5⟩ := id h
  refine (commit_any s w h1 (by have := hp.hl.steps; omega) (by have := hp.hl.wl; omega)).mono ?_
  rintro e w' ⟨rfl, M', F', k1, k2, k3, k4⟩
  exact ⟨rfl, ZPost.mk' h h2 h3 k1 k3 (k4.mono fun i _ hi => hi.elim (fun hi => h2 i ((disk_ltF h1.2.1).2 i hi)) (h3 i))⟩
theorem drop_z (j : Int) (w : World) (h : PZ w0 w pp dp p Q) :
    Calls Try.prog 59 #[.pointer (some ⟨pp, 0, none⟩), .int .i64 j] w fun e w' => e = .returned (.int .i64 ((dropP p j).1 : Nat)) ∧ ZPost w0 w pp dp (dropP p j).2 Q w' := by
  obtain ⟨gb, mb, M, F, O, h1, h2, h3, h4, h5⟩ := id h
  refine (drop_any j w h1).mono ?_
  rintro e w' ⟨rfl, k1, k4⟩
  exact ⟨rfl, ZPost.mk' h h2 h3 k1 (Fresh.refl _ _) (k4.mono fun i _ hi => h3 i hi)⟩
theorem abort_z (w : World) (h : PZ w0 w pp dp p Q) :
    Calls Try.prog 61 #[.pointer (some ⟨pp, 0, none⟩)] w fun e w' => e = .returned (.tuple #[]) ∧ ZPost w0 w pp dp (abortP p) Q w' := by
  obtain ⟨gb, mb, M, F, O, h1, h2, h3, h4, h5⟩ := id h
  refine (abort_any w h1).mono ?_
  rintro e w' ⟨rfl, k1, k4⟩
  exact ⟨rfl, ZPost.mk' h h2 h3 k1 (Fresh.refl _ _) (k4.mono fun i _ hi => h3 i hi)⟩
theorem read_z (j : Int) (w : World) (h : PZ w0 w pp dp p Q) (hp : HP p n k) (hk : k ≤ 900000) :
    Calls Try.prog 64 #[.pointer (some ⟨pp, 0, none⟩), .int .i64 j] w fun e w' => e = .returned (.tuple #[.int .i64 ((readP p j).1.1 : Nat), .string ⟨(readP p j).1.2.1.toArray⟩, .int .i64 ((readP p j).1.2.2 : Nat)]) ∧ ZPost w0 w pp dp (readP p j).2 Q w' := by
  obtain ⟨gb, mb, M, F, O, h1, h2, h3, h4, h5⟩ := id h
  refine (pread_any j w h1 (by have := hp.hl.wl; omega)).mono ?_
  rintro e w' ⟨rfl, k1, k4⟩
  exact ⟨rfl, ZPost.mk' h h2 h3 k1 (Fresh.refl _ _) (k4.mono fun i _ hi => h3 i hi)⟩
theorem free_z (w : World) (h : PZ w0 w pp dp p Q) :
    Calls Try.prog 56 #[.pointer (some ⟨pp, 0, none⟩)] w fun e w' => e = .returned (.int .i64 (freeL p.pages : Int)) ∧ ZPost w0 w pp dp p Q w' := by
  obtain ⟨gb, mb, M, F, O, h1, h2, h3, h4, h5⟩ := id h
  refine (free_any w h1).mono ?_
  rintro e w' ⟨rfl, k4⟩
  exact ⟨rfl, h.post k4⟩
theorem gen_z (w : World) (h : PZ w0 w pp dp p Q) : Calls Try.prog 62 #[.pointer (some ⟨pp, 0, none⟩)] w fun e w' => e = .returned (.int .i64 (p.gen : Int)) ∧ w = w' := by
  obtain ⟨M, F, O, h1⟩ := h.at_; exact gen_any w h1
theorem root_z (w : World) (h : PZ w0 w pp dp p Q) : Calls Try.prog 63 #[.pointer (some ⟨pp, 0, none⟩)] w fun e w' => e = .returned (.string ⟨p.root.toArray⟩) ∧ w = w' := by
  obtain ⟨M, F, O, h1⟩ := h.at_; exact root_any w h1
end

/-- A formatted disk, all of whose blocks are new. -/
def DZ (w0 w : World) (dp : Nat) (d : Dk) : Prop := ∃ M F, DiskAt w dp d M F ∧ (∀ k, F k → w0.heap.size ≤ k) ∧ Ch (fun _ => False) w0 w
theorem open_z {w0 : World} {dp : Nat} {d : Dk} {n k : Nat} (w : World) (h : DZ w0 w dp d) (hd : Hl d n k) (hk : k ≤ 900000) (he : openE d = 0) :
    Calls Try.prog 54 #[.pointer (some ⟨dp, 0, none⟩)] w fun e w' => ∃ pp Q, e = .returned (.tuple #[.pointer (some ⟨pp, 0, none⟩), .int .i64 0]) ∧ PZ w0 w' pp dp (openP d) Q := by
  obtain ⟨M, F, h1, h2, h3⟩ := h
  refine (popen_any w h1 (by have := hd.wl; omega)).mono ?_
  rintro e w' ⟨c1, ⟨x, _⟩ | ⟨_, pp, gb, mb, O, rfl, k1, k2⟩⟩
  · exact absurd he x
  · have hlt := (disk_ltF h1).1
    have hO := k1.2.2.2.2.2.2
    refine ⟨pp, fun k => F k ∨ O k, rfl, gb, mb, M, F, O, k1, fun _ h => .inl h, fun _ h => .inr h, fun k hk => ?_, h3.then c1 (fun _ _ h => h)⟩
    have := c1.size
    have := h3.size
    rcases hk with h | h
    · have := h2 k h; have := hlt k h; omega
    · have := k2 k h; have := (hO k h).2; omega
theorem format_z {w0 : World} {dp : Nat} {d : Dk} {n k : Nat} (w : World) (h : DZ w0 w dp d) (hd : Hl d n k) (hn : 4 ≤ n) (hk : k ≤ 800000) :
    Calls Try.prog 53 #[.pointer (some ⟨dp, 0, none⟩)] w fun e w' => e = .returned (.int .i64 ((formatD d).1 : Nat)) ∧ DZ w0 w' dp (formatD d).2 := by
  obtain ⟨M, F, h1, h2, h3⟩ := h
  have e : formatD d = chD (fmtL (srootL 1 [])) d := by unfold formatD; rw [if_neg (by rw [hd.len]; omega)]
  rw [e]
  refine (format_ok w h1 (by rw [hd.len]; exact hn) (by have := hd.steps; omega) (by have := hd.wl; omega)).mono ?_
  rintro e w' ⟨rfl, M', F', k1, k2, k3, k4⟩
  refine ⟨rfl, M', F', k1, fun k hk => ?_, h3.then k4 (fun i hi h => by have := h2 i ((disk_ltF h1).2 i h); omega)⟩
  have := h3.size
  rcases k3 k hk with h | h
  · exact h2 k h
  · omega

end Go.Proofs.Ytadhibemadgcoaa
