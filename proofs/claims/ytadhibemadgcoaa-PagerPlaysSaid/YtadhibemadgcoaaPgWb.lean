/- A cut of power: the calls, the law's holds. Conditions: as each theorem says. -/
import Derived.Test.YtadhibemadgcoaaPgThree
namespace Go.Proofs.Ytadhibemadgcoaa
open Go.RowKit

theorem pod_begun {d : Dk} {has : List (Nat × ByteArray)} (h : HasOk d has) (hl : has.length ≤ 12) : POk (cont d) has := by
  refine ⟨?_, fun y hy => ?_⟩
  · refine List.pairwise_iff_getElem.2 fun i j hi hj hij => ?_
    rw [List.getElem_map, List.getElem_map]
    have hi' : i < has.length := by simpa using hi
    have hj' : j < has.length := by simpa using hj
    have h1 := (h i _ (List.getElem?_eq_getElem hi')).1
    have h2 := (h j _ (List.getElem?_eq_getElem hj')).1
    omega
  · obtain ⟨j, hj⟩ := List.getElem?_of_mem hy
    obtain ⟨h1, h2, h3⟩ := h j y hj
    have := (List.getElem?_eq_some_iff.1 hj).1
    exact ⟨by omega, by omega, h2, j, 2, by omega, by omega, h3⟩
/-- The beginning. -/
theorem Begun.whI {p : Pg} {has : List (Nat × ByteArray)} (h : Begun p 30 has) (x : Int) : WhI { p with d := fuseD p.d x } 2001 has has := by
  have hw := h.wait
  have hc : ∀ i, cont p.d i = p.d.L.getD i [] := fun i => by unfold cont; rw [hw]; rfl
  have hc2 : ∀ i, cont (fuseD p.d x) i = p.d.L.getD i [] := hc
  have hp := pod_begun h.ok h.len
  have hst : ∀ y ∈ has, ∃ x, p.pages[y.1]? = some x ∧ x.1 = 1 := fun y hy => by
    obtain ⟨j, hj⟩ := List.getElem?_of_mem hy
    have h1 := (h.ok j y hj).1
    have hjl := (List.getElem?_eq_some_iff.1 hj).1
    refine ⟨(1, 0), ?_, rfl⟩
    rw [h.pages, h1]
    exact bPages_get (1, 0) 30 has.length j hjl
  refine ⟨⟨h.hp.hl.len, Nat.le_succ_of_le h.hp.hl.steps, Nat.le_succ_of_le h.hp.hl.wl⟩, ⟨h.hp.hl.sane.n1, h.hp.hl.sane.n2, h.hp.hl.sane.wait, h.hp.hl.sane.secs⟩, h.hp.len, h.gen, ?_, ?_, ?_, hp.turn (fun y _ => (hc y.1).symm), fun y hy => ?_, hp, fun y hy => ?_⟩
  · show ∀ z ∈ p.d.wait, _
    rw [hw]; simp
  · show p.d.L.getD 0 [] = _
    rw [← hc]; exact h.r0
  · show p.d.L.getD 1 [] = _
    rw [← hc]; exact h.r1
  · obtain ⟨z, h1, h2⟩ := hst y hy; exact ⟨z, h1, .inl h2⟩
  · obtain ⟨z, h1, h2⟩ := hst y hy; exact ⟨z, h1, .inl h2⟩

section
variable {w0 : World} {pp dp : Nat} {p : Pg} {Q : Nat → Prop}
theorem put_y (kind : Int) (s : ByteArray) (w : World) (h : PZ w0 w pp dp p Q) (h1 : p.d.steps ≤ 900000) (h2 : p.d.wait.length ≤ 900000) :
    Calls Try.prog 57 #[.pointer (some ⟨pp, 0, none⟩), .int .i64 kind, .string s] w fun e w' => e = .returned (.tuple #[.int .i64 ((putP p kind s.data.toList).1 : Nat), .int .i64 ((putP p kind s.data.toList).2.1 : Nat)]) ∧ ZPost w0 w pp dp (putP p kind s.data.toList).2.2 Q w' := by
  obtain ⟨gb, mb, M, F, O, g1, g2, g3, g4, g5⟩ := id h
  refine (put_any2 kind s w g1 (by omega) (by omega)).mono ?_
  rintro e w' ⟨rfl, M', F', k1, k2, k3, k4⟩
  exact ⟨rfl, ZPost.mk' h g2 g3 k1 k3 (k4.mono fun i _ hi => hi.elim (fun hi => g2 i ((disk_ltF g1.2.1).2 i hi)) (g3 i))⟩
theorem commit_y (s : ByteArray) (w : World) (h : PZ w0 w pp dp p Q) (h1 : p.d.steps ≤ 900000) (h2 : p.d.wait.length ≤ 900000) :
    Calls Try.prog 58 #[.pointer (some ⟨pp, 0, none⟩), .string s] w fun e w' => e = .returned (.int .i64 ((commitP p s.data.toList).1 : Nat)) ∧ ZPost w0 w pp dp (commitP p s.data.toList).2 Q w' := by
  obtain ⟨gb, mb, M, F, O, g1, g2, g3, g4, g5⟩ := id h
  refine (commit_any s w g1 (by omega) (by omega)).mono ?_
  rintro e w' ⟨rfl, M', F', k1, k2, k3, k4⟩
  exact ⟨rfl, ZPost.mk' h g2 g3 k1 k3 (k4.mono fun i _ hi => hi.elim (fun hi => g2 i ((disk_ltF g1.2.1).2 i hi)) (g3 i))⟩
theorem fuse_y (x : Int) (w : World) (h : PZ w0 w pp dp p Q) (hx : x ≤ 9223372036854775807) :
    Calls Try.prog 42 #[.pointer (some ⟨dp, 0, none⟩), .int .i64 x] w fun e w' => e = .returned (.tuple #[]) ∧ ZPost w0 w pp dp { p with d := fuseD p.d x } Q w' := by
  obtain ⟨gb, mb, M, F, O, g1, g2, g3, g4, g5⟩ := id h
  refine (fuse_any x w hx g1.2.1).mono ?_
  rintro e w' ⟨rfl, k1, k2⟩
  exact ⟨rfl, ZPost.mk' h g2 g3 (g1.disk k2 k1 rfl (Fresh.refl _ _)) (Fresh.refl _ _) (k2.mono fun i _ hi => g2 i ((disk_ltF g1.2.1).2 i hi))⟩
theorem crash_y (a : Option Addr) (m cap : Nat) (kept : List (Int × Int)) (w : World) (hm : kept.length = m) (h : PZ w0 w pp dp p Q) (hwt : p.d.wait.length ≤ 1000000) (hkl : m ≤ 1000000) (hkv : Kps w (.slice a m cap) kept) :
    Calls Try.prog 24 #[.pointer (some ⟨dp, 0, none⟩), .slice a m cap] w fun e w' => ∃ dp', e = .returned (.pointer (some ⟨dp', 0, none⟩)) ∧ DZ w w' dp' (crashD p.d kept) ∧ Ch (fun _ => False) w w' := by
  subst hm
  obtain ⟨gb, mb, M, F, O, g1, g2, g3, g4, g5⟩ := id h
  refine (crash_any a cap kept w g1.2.1 hwt hkl hkv).mono ?_
  rintro e w' ⟨dp', M', rfl, k1, k2, k3⟩
  exact ⟨dp', rfl, ⟨M', M', k1, k3, k2⟩, k2⟩
theorem use_z (a : Option Addr) (cap : Nat) (l : List Int) (w : World) (h : PZ w0 w pp dp p Q) (hi : Ints w (.slice a l.length cap) l) (hl : l.length ≤ 1000)
    (hwf : ∀ x ∈ l, (Lit.int .i64 x).wf = true) (hO : ∀ k, (Value.slice a l.length cap).ownBlock = some k → ¬ Q k) :
    Calls Try.prog 69 #[.pointer (some ⟨pp, 0, none⟩), .slice a l.length cap] w fun e w' => e = .returned (.int .i64 ((useP p l).1 : Nat)) ∧ ZPost w0 w pp dp (useP p l).2 Q w' := by
  obtain ⟨gb, mb, M, F, O, g1, g2, g3, g4, g5⟩ := id h
  refine (use_any a cap l w g1 hi hl hwf (fun k hk ho => hO k hk (g3 k ho))).mono ?_
  rintro e w' ⟨rfl, k1, k4⟩
  exact ⟨rfl, ZPost.mk' h g2 g3 k1 (Fresh.refl _ _) (k4.mono fun i _ hi => g3 i hi)⟩
end
theorem DZ.sane {w0 w : World} {dp : Nat} {d : Dk} (h : DZ w0 w dp d) : Sane d := by obtain ⟨M, F, h1, _⟩ := h; exact h1.sane

theorem Try.info91 : (Try.prog.info? 96).map (fun i => (i.zero, i.size, i.bytes)) = some (some (.agg #[.int .i64 0, .string ⟨#[]⟩]), 2, 24) := Try.info96
theorem hasCells_one (l : List (Nat × ByteArray)) : ∀ u ∈ hasCells l, u.oneCell' = true := by
  intro u hu
  obtain ⟨x, _, hx⟩ := List.mem_flatMap.1 hu
  simp at hx
  rcases hx with rfl | rfl <;> rfl
theorem hasCells_length (l : List (Nat × ByteArray)) : (hasCells l).length = l.length * 2 := by
  induction l with
  | nil => rfl
  | cons x l ih => show (_ :: _ :: hasCells l).length = _; simp [ih]; omega
/-- Other blocks turn. -/
theorem HasAt.off {S : Nat → Prop} {w w' : World} {base n : Nat} {Q : Nat → Prop} {v : Value} {l : List (Nat × ByteArray)} (h : HasAt w base Q v n l) (hc : Ch S w w') (hs : ∀ k, v.ownBlock = some k → ¬ S k) : HasAt w' base Q v n l :=
  ⟨ownsRow_frame h.1 (fun k hk => hc.block k (h.1.lt k hk).2 (hs k hk)), h.2.1, h.2.2⟩
/-- These blocks, and v's. -/
def QH (Q : Nat → Prop) (v : Value) (q : Nat) : Prop := Q q ∨ v.ownBlock = some q
theorem QH.fresh {w : World} {Q Q' : Nat → Prop} (v : Value) (h : Fresh w Q Q') : Fresh w (QH Q v) (QH Q' v) := fun k hk => by
  rcases hk with hk | hk
  · exact (h k hk).imp .inl id
  · exact .inl (.inr hk)
/-- append of all pages to an empty row of the call's own. -/
theorem HasAt.copy {w : World} {base m cap : Nat} {Q : Nat → Prop} {a : Option Addr} {l : List (Nat × ByteArray)} (h : HasAt w base Q (.slice a m cap) m l) (b0 : Nat) (hb0 : w.heap[b0]? = some (.cells #[] 96 (0, 0))) (hbase : base ≤ b0) (hm : m ≤ 1000) (Q' : Nat → Prop) (hQ : ∀ k, Q' k → k < w.heap.size ∧ k ≠ b0) :
    ∃ a' c' w', (Builtin.append_ #[91, 91] 91 #[.slice (some ⟨b0, 0, none⟩) 0 0, .slice a m cap]).run Try.prog w = .ok (.slice a' m c') w' ∧ HasAt w' base Q' (.slice a' m c') m l ∧ Ch (fun k => k = b0) w w' := by
  obtain ⟨h1, h2, h3⟩ := h
  have hbz := blk_lt hb0
  have hown : w.ownsRow 0 96 2 (.slice (some ⟨b0, 0, none⟩) 0 0) 0 [] :=
    ⟨by simp, .inr ⟨b0, 0, #[], rfl, Nat.zero_le _, hb0, Nat.le_refl _, Nat.zero_le _, by simp, by simp⟩⟩
  obtain ⟨i, hi, hzz⟩ := Option.map_eq_some_iff.1 Try.info96
  rcases h1.2 with ⟨e, h0⟩ | ⟨g, c, cur, e, hb, hg, hc, _, hs, ht⟩
  · cases e
    have hl : l = [] := List.eq_nil_of_length_eq_zero h2
    subst hl
    refine ⟨some ⟨b0, 0, none⟩, 0, w, ?_, ⟨⟨rfl, .inr ⟨b0, 0, #[], rfl, hbase, hb0, Nat.le_refl _, Nat.zero_le _, by simp, by simp [hasCells]⟩⟩, rfl, fun k hk hq => ?_⟩, Ch.refl _ _⟩
    · simp [Builtin.append_, run_underlying Try.underlying91, sizeOf, typeInfo, hi, Builtin.lenOf, Builtin.firstCells, storeCells]
    · obtain rfl : b0 = k := by simpa [Value.ownBlock] using hk
      exact (hQ b0 hq).2 rfl
  · cases e
    have hcell : ∀ j u, (hasCells l)[j]? = some u → w.cell? ((⟨g, 0, none⟩ : Addr).add j) = some u := h1.cells (g := g) rfl
    obtain ⟨v', w', r1, r2, r3, r4⟩ := run_append_own2 (P := Try.prog) w 91 91 96 (.agg #[.int .i64 0, .string ⟨#[]⟩]) 2 24 Try.underlying91 Try.info96 rfl (by omega) _ 0 [] hown ⟨g, 0, none⟩ m cap (hasCells l) (by rw [hasCells_length, h2]) hcell (hasCells_one l) (by unfold maxLen; omega) (by omega)
    have hk : ∀ k, v'.ownBlock = some k → k = b0 ∨ w.heap.size ≤ k := fun k hk => by
      rcases r4 with e | e
      · rw [e] at hk
        obtain rfl : b0 = k := by simpa [Value.ownBlock] using hk
        exact .inl rfl
      · exact .inr (e k hk)
    have r2' : w'.ownsRow 0 96 2 v' m (hasCells l) := by simpa using r2
    have hbw : base ≤ w.heap.size := by omega
    have r3' : w'.ownsRow base 96 2 v' m (hasCells l) := by
      refine ⟨r2'.1, ?_⟩
      rcases r2'.2 with h2 | ⟨g, cap, cur, rfl, _, r⟩
      · exact .inl h2
      · exact .inr ⟨g, cap, cur, rfl, by rcases hk g rfl with h | h <;> omega, r⟩
    have h4 : HasAt w' base Q' v' m l := ⟨r3', h2, fun k hkk hq => by
      obtain ⟨q1, q2⟩ := hQ k hq
      rcases hk k hkk with h | h
      · exact q2 h
      · omega⟩
    obtain ⟨a', c', rfl⟩ := h4.form
    refine ⟨a', c', w', r1, h4, r3.mono (fun k _ h => ?_)⟩
    obtain rfl : b0 = k := by simpa [Value.ownBlock] using h
    rfl

set_option maxRecDepth 20000 in
set_option maxHeartbeats 4000000 in
theorem holds_any {w0 : World} {pp dp base k m cap : Nat} {p : Pg} {Q : Nat → Prop} {a : Option Addr} {l : List (Nat × ByteArray)} (w : World) (hz : PZ w0 w pp dp p Q) (hh : HasAt w base Q (.slice a m cap) m l) (hi : HoI p k l 0) (hk : k ≤ 900000) (hm : m ≤ 60) :
    Calls Try.prog 68 #[.pointer (some ⟨pp, 0, none⟩), .slice a m cap] w fun e w' => e = .returned (.bool true) ∧ Ch (fun _ => False) w0 w' := by
  have HZ0 := hid hz
  have HH0 := hid hh
  have HI0 := hid hi
  have HLm := hid hh.2.1
  clear hz hh hi
  go_enter Try.func68, Try.ntmps68
  go_wp2_with fail
  go_loopw [12] (fun i wr => ∃ j : Nat, i = .int .i64 (j : Int) ∧ j ≤ m ∧ Hid (∃ p Q, PZ w0 wr pp dp p Q ∧ HoI p k l j ∧ HasAt wr base Q (.slice a m cap) m l)) (fun i _ => 100 - (intOf i).toNat)
  case atStart => exact ⟨0, rfl, Nat.zero_le _, hid ⟨_, _, HZ0.out, HI0.out, HH0.out⟩⟩
  case round =>
    clear HZ0 HH0 HI0
    obtain ⟨j, rfl, hj, HI⟩ := hrel
    obtain ⟨p, Qp, hz, hab, hh⟩ := HI.out
    have HZ := hid hz
    have HA := hid hab
    have HH := hid hh
    have HC := hid hz.base
    clear hz hab hh
    by_cases hlt : j < m
    · obtain ⟨x, HX⟩ : ∃ x, Hid (l[j]? = some x) := ⟨l[j]'(by rw [HLm.out]; exact hlt), hid (List.getElem?_eq_getElem _)⟩
      obtain ⟨b, rfl, hc0, hc1, hblt⟩ := HH.out.get HX.out
      obtain ⟨p', kd, hus, hho, hrd⟩ := HA.out.step HX.out
      have h30 := (HA.out.ok.2 x (List.mem_of_getElem? HX.out)).2.1
      obtain ⟨xn, xs⟩ := x
      dsimp only at hc0 hc1 hus hrd h30
      have hsz : (wr.alloc (.cells #[.int .i64 (xn : Int), .string xs] 96)).heap.size = wr.heap.size + 1 := World.size_alloc _ _
      have hw1 := (Ch.refl (fun _ => False) wr).alloc (.cells #[.int .i64 (xn : Int), .string xs] 96)
      have hw2 := hw1.alloc (.cells #[.int .i64 (xn : Int)] 3)
      have hz1 := HZ.out.ch hw2 (fun _ _ h => h) (fun _ _ h => h)
      have hh1 := HH.out.ch hw2 (fun _ h _ => h.elim) (Fresh.refl _ _)
      have hnew := heap_new (w := wr.alloc (.cells #[.int .i64 (xn : Int), .string xs] 96)) (.cells #[.int .i64 (xn : Int)] 3)
      rw [hsz] at hnew
      have hlt2 := HZ.out.lt
      have huz := use_z (some ⟨wr.heap.size + 1, 0, none⟩) 1 [(xn : Int)] _ hz1 (.inr ⟨_, 0, 1, _, _, _, rfl, hnew, fun i y hy => by
        rcases i with _ | i
        · simp at hy; subst hy; rfl
        · simp at hy⟩) (by simp) (fun y hy => by simp at hy; subst hy; exact int_wf (by omega) (by omega)) (fun q hq hQ => by
          obtain rfl : wr.heap.size + 1 = q := by simpa [Value.ownBlock] using hq
          have := (hlt2 _ hQ).2
          omega)
      rw [hus] at huz
      simp only [List.length_singleton] at huz
      have g0 := cell_ch2 (S := fun _ => False) (heap_new2 wr (.int .i64 (xn : Int)) (.string xs) 96).1 ((Ch.refl _ _).alloc (.cells #[.int .i64 (xn : Int)] 3)) (fun h => h)
      have g1 := cell_ch2 (S := fun _ => False) (heap_new2 wr (.int .i64 (xn : Int)) (.string xs) 96).2 ((Ch.refl _ _).alloc (.cells #[.int .i64 (xn : Int)] 3)) (fun h => h)
      have HUz := hid huz
      have HH1 := hid hh1
      have HHo := hid hho
      have HRd := hid hrd
      have HG0 := hid g0
      have HG1 := hid g1
      have hnq : Hid (¬ Qp wr.heap.size) := hid (fun h => by have := (HZ.out.lt _ h).2; omega)
      clear hsz hw1 hw2 hz1 hh1 hnew hlt2 huz hus hho hrd g0 g1
      go_wp2_with fail
      refine HUz.out.mono ?_
      rintro e w8 ⟨rfl, Q8, hz8, hf8, hc8⟩
      have g0 := cell_ch2 HG0.out hc8 hnq.out
      have g1 := cell_ch2 HG1.out hc8 hnq.out
      have hrz := read_z (xn : Int) w8 hz8 HHo.out.hp (by omega)
      rw [HRd.out] at hrz
      have HRZ := hid hrz
      have HH8 := hid (HH1.out.ch hc8 (fun _ h _ => h) hf8)
      have hnq8 : Hid (¬ Q8 wr.heap.size) := hid (fun h => by
        rcases hf8 _ h with h | h
        · exact hnq.out h
        · simp only [World.size_alloc] at h; omega)
      clear hz8 hf8 hc8 hrz
      go_wp2_with (go_at_call 55; refine (no3_any _ _).mono ?_; rintro e w' ⟨rfl, rfl⟩)
      refine HRZ.out.mono ?_
      rintro e w9 ⟨rfl, Q9, hz9, hf9, hc9⟩
      have g2 := cell_ch2 g1 hc9 hnq8.out
      have HZ9 := hid hz9
      have HH9 := hid (HH8.out.ch hc9 (fun _ h _ => h) hf9)
      clear hz9 hf9 hc9 g0 g1
      have hback := str_back xs
      go_wp2_with (go_at_call 55; refine (no3_any _ _).mono ?_; rintro e w' ⟨rfl, rfl⟩)
      go_roundw
      case rel => exact ⟨j + 1, by go_num, by omega, hid ⟨p', Q9, HZ9.out, HHo.out, HH9.out⟩⟩
      case measure => simp [intOf]; omega
    · go_wp2_with fail
      go_ret
      exact ⟨rfl, HC.out⟩

end Go.Proofs.Ytadhibemadgcoaa
