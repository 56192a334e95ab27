/- Package pager: Put, Read. Conditions: not more than a million steps and writes that wait. -/
import Derived.Test.YtadhibemadgcoaaPgD
namespace Go.Proofs.Ytadhibemadgcoaa
open Go.RowKit Go.MapKept Go.Maps

theorem PgX.disk {w w' : World} {pp dp gb mb : Nat} {p : Pg} {M F O M' F' : Nat → Prop} {d' : Dk} (h : PgX w pp dp gb mb p M F O) (hc : Ch M w w') (hd : DiskAt w' dp d' M' F') (hl : d'.L.length = p.d.L.length) (hF : Fresh w F F') : PgX w' pp dp gb mb { p with d := d' } M' F' O := by
  obtain ⟨h1, h2, h3, h4, h5, h6, h7⟩ := h
  have hMF : ∀ k, M k → F k := by obtain ⟨_, _, _, _, _, _, _, _, h4, _⟩ := h2; exact h4
  have ho : ∀ k, O k → w'.heap[k]? = w.heap[k]? := fun k hk => hc.block k (h7 k hk).2 (fun hm => (h7 k hk).1 (hMF k hm))
  have h1' := h1.frame (ho _ h4) (ho _ h5) (ho _ h6)
  exact ⟨⟨h1'.n1, h1'.n2, h1'.gen, h1'.pg, h1'.pn, h1'.pc, h1'.hp, h1'.hg, h1'.hm⟩, hd, h3.trans hl.symm, h4, h5, h6, fun k hk => ⟨fun hf => by
    rcases hF k hf with h | h
    · exact (h7 k hk).1 h
    · have := (h7 k hk).2; omega, Nat.lt_of_lt_of_le (h7 k hk).2 hc.size⟩⟩
theorem PgX.at_ {w : World} {pp dp gb mb : Nat} {p : Pg} {M F O : Nat → Prop} (h : PgX w pp dp gb mb p M F O) : PgAt w pp dp p M F O := ⟨gb, mb, h⟩
theorem PgX.MF {w : World} {pp dp gb mb : Nat} {p : Pg} {M F O : Nat → Prop} (h : PgX w pp dp gb mb p M F O) : (∀ k, M k → F k) ∧ (∀ k, F k → k < w.heap.size) ∧ ∀ k, O k → ¬ F k ∧ k < w.heap.size := by
  obtain ⟨h1, h2, h3, h4, h5, h6, h7⟩ := h
  obtain ⟨_, _, _, _, _, _, _, _, h8, h9⟩ := h2
  exact ⟨h8, h9, h7⟩

theorem write_len (d : Dk) (a : Int) (b : List UInt8) : (writeD d a b).2.L.length = d.L.length := by
  unfold writeD
  split
  · rfl
  · split
    · rfl
    · by_cases hg : d.gone = true ∨ d.fuse = 0
      · rw [stepD_no hg, if_pos rfl]
      · rw [stepD_yes hg, if_neg (by simp)]; rfl
theorem flush_len (d : Dk) : (flushD d).2.L.length = d.L.length := by
  unfold flushD
  by_cases hg : d.gone = true ∨ d.fuse = 0
  · rw [stepD_no hg, if_pos rfl]
  · rw [stepD_yes hg, if_neg (by simp)]; exact applyW_length _ _

/-- The first free page; their number, if there is none. -/
def ffL (l : List (Nat × Nat)) : Nat := 2 + (l.drop 2).findIdx fun x => x.1 == 0
structure IsFF (l : List (Nat × Nat)) (j : Nat) : Prop where
  lo : 2 ≤ j
  hi : j ≤ l.length
  no : ∀ i x, 2 ≤ i → i < j → l[i]? = some x → x.1 ≠ 0
  yes : ∀ x, l[j]? = some x → x.1 = 0
theorem IsFF.eq {l : List (Nat × Nat)} {j : Nat} (h : IsFF l j) : ffL l = j := by
  unfold ffL
  have e : (l.drop 2).findIdx (fun x => x.1 == 0) = j - 2 := by
    by_cases hj : j < l.length
    · rw [List.findIdx_eq (by rw [List.length_drop]; have := h.lo; omega)]
      refine ⟨?_, fun i hi => ?_⟩
      · have := h.yes (l[j]) (List.getElem?_eq_getElem hj)
        simp only [List.getElem_drop, show 2 + (j - 2) = j by have := h.lo; omega]
        simpa using this
      · have := h.no (2 + i) (l[2 + i]'(by omega)) (by omega) (by omega) (List.getElem?_eq_getElem _)
        simpa using this
    · have hl : j = l.length := by have := h.hi; omega
      rw [List.findIdx_eq_length_of_false, List.length_drop, hl]
      intro x hx
      obtain ⟨i, hi, rfl⟩ := List.mem_iff_getElem.1 hx
      rw [List.length_drop] at hi
      have := h.no (2 + i) (l[2 + i]'(by omega)) (by omega) (by omega) (List.getElem?_eq_getElem _)
      simpa using this
  rw [e]
  have := h.lo
  omega

/-- Put: the page's number, the error, the pager. -/
def putP (p : Pg) (kind : Int) (s : List UInt8) : Nat × Nat × Pg :=
  if p.dead = true then (0, 9, p)
  else if sealE kind ((p.gen : Int) + 1) s.length ≠ 0 then (0, sealE kind ((p.gen : Int) + 1) s.length, p)
  else if ffL p.pages = p.pages.length then (0, 6, p)
  else if (writeD p.d (ffL p.pages : Int) (sealL kind ((p.gen : Int) + 1) s)).1 ≠ 0 then (0, (writeD p.d (ffL p.pages : Int) (sealL kind ((p.gen : Int) + 1) s)).1, toldP { p with d := (writeD p.d (ffL p.pages : Int) (sealL kind ((p.gen : Int) + 1) s)).2 } (writeD p.d (ffL p.pages : Int) (sealL kind ((p.gen : Int) + 1) s)).1)
  else (ffL p.pages, 0, { p with d := (writeD p.d (ffL p.pages : Int) (sealL kind ((p.gen : Int) + 1) s)).2, pages := p.pages.set (ffL p.pages) (2, (p.pages.getD (ffL p.pages) (0, 0)).2) })

theorem put_none (kind : Int) (s : ByteArray) (w : World) : Calls Try.prog 57 #[.pointer none, .int .i64 kind, .string s] w fun e w' => e = .returned (.tuple #[.int .i64 0, .int .i64 1]) ∧ w = w' := by
  go_enter Try.func57, Try.ntmps57
  go_wp2_with (go_at_call 98; refine (ready_none _).mono ?_; rintro e w' ⟨rfl, rfl⟩)
  go_ret2
  exact ⟨rfl, rfl⟩

def PutPost (w : World) (pp dp gb mb : Nat) (p : Pg) (M F O : Nat → Prop) (kind : Int) (s : List UInt8) (e : Ending) (w' : World) : Prop :=
  e = .returned (.tuple #[.int .i64 ((putP p kind s).1 : Nat), .int .i64 ((putP p kind s).2.1 : Nat)]) ∧ ∃ M' F', PgX w' pp dp gb mb (putP p kind s).2.2 M' F' O ∧ Fresh w M M' ∧ Fresh w F F' ∧ Ch (fun k => M k ∨ O k) w w'

set_option maxRecDepth 20000 in
set_option maxHeartbeats 4000000 in
theorem put_any2 {pp dp gb mb : Nat} {p : Pg} {M F O : Nat → Prop} (kind : Int) (s : ByteArray) (w : World) (h : PgX w pp dp gb mb p M F O) (hst : p.d.steps ≤ 1000000) (hwt : p.d.wait.length ≤ 1000000) :
    Calls Try.prog 57 #[.pointer (some ⟨pp, 0, none⟩), .int .i64 kind, .string s] w (PutPost w pp dp gb mb p M F O kind s.data.toList) := by
  have HX := hid h
  have hR := ready_any w h.at_
  have c1 := cell_blk h.1.hp 1
  simp at c1
  have n2 := h.1.n2
  have n1 := h.1.n1
  have hgen := h.1.gen
  clear h
  by_cases hd : p.dead = true
  · have e : putP p kind s.data.toList = (0, 9, p) := by unfold putP; rw [if_pos hd]
    have fin : Hid (PutPost w pp dp gb mb p M F O kind s.data.toList (.returned (.tuple #[.int .i64 0, .int .i64 9])) w) := hid (by
      unfold PutPost; rw [e]; exact ⟨rfl, M, F, HX.out, Fresh.refl _ _, Fresh.refl _ _, Ch.refl _ _⟩)
    rw [hd] at hR
    have HR := hid hR
    clear hR c1 e hd
    go_enter Try.func57, Try.ntmps57
    go_wp2_with (go_at_call 98; refine HR.out.mono ?_; rintro e w' ⟨rfl, rfl⟩)
    go_ret2
    exact fin.out
  have hdf : p.dead = false := by simpa using hd
  rw [hdf] at hR
  have HR := hid hR
  have HD := hid hd
  have HDf := hid hdf
  clear hR hd hdf
  obtain ⟨g, HGg⟩ : ∃ g, Hid (p.gen = g) := ⟨_, hid rfl⟩
  rw [HGg.out] at c1 hgen
  have HSeal := hid (seal_any kind ((g : Int) + 1) s w)
  by_cases hE : sealE kind ((g : Int) + 1) s.size ≠ 0
  · have e : putP p kind s.data.toList = (0, sealE kind ((g : Int) + 1) s.size, p) := by
      unfold putP; rw [if_neg HD.out, HGg.out, size_toList, if_pos hE]
    have fin : Hid (∀ w', Ch (fun _ => False) w w' → PutPost w pp dp gb mb p M F O kind s.data.toList (.returned (.tuple #[.int .i64 0, .int .i64 (sealE kind ((g : Int) + 1) s.size : Nat)])) w') := hid (fun w' hc => by
      unfold PutPost; rw [e]; exact ⟨rfl, M, F, HX.out.ch hc (fun _ _ h => h) (fun _ _ h => h), Fresh.refl _ _, Fresh.refl _ _, hc.mono (fun _ _ h => h.elim)⟩)
    obtain ⟨E, HEE⟩ : ∃ E, Hid (sealE kind ((g : Int) + 1) s.size = E) := ⟨_, hid rfl⟩
    rw [HEE.out] at fin HSeal hE
    have hEb : ((E : Int) == 0) = false := by simpa using hE
    clear hE e
    go_enter Try.func57, Try.ntmps57
    go_wp2_with (go_at_call 98; refine HR.out.mono ?_; rintro e w' ⟨rfl, rfl⟩)
    refine HSeal.out.mono ?_
    rintro e w1 ⟨v, rfl, -, c, -⟩
    have HC := hid c
    clear c
    go_wp2_with fail
    go_ret2
    exact fin.out _ HC.out
  have hE0 : sealE kind ((g : Int) + 1) s.size = 0 := by omega
  have HE0 := hid hE0
  rw [hE0] at HSeal
  clear hE hE0
  go_enter Try.func57, Try.ntmps57
  go_wp2_with (go_at_call 98; refine HR.out.mono ?_; rintro e w' ⟨rfl, rfl⟩)
  refine HSeal.out.mono ?_
  rintro e w1 ⟨v, rfl, hb, c, ho⟩
  obtain ⟨B, HB⟩ : ∃ B, Hid (sealL kind ((g : Int) + 1) s.data.toList = B) := ⟨_, hid rfl⟩
  rw [HB.out] at hb
  obtain ⟨va, vc, rfl⟩ := hb.form
  have HBt := hid hb
  have HC := hid c
  have HO := hid ho
  have HX1 := hid (HX.out.ch c (fun _ _ h => h) (fun _ _ h => h))
  have c3 := cell_blk HX1.out.1.hp 3
  have c0 := cell_blk HX1.out.1.hp 0
  simp at c3 c0
  obtain ⟨n, HN⟩ : ∃ n, Hid (p.pages.length = n) := ⟨_, hid rfl⟩
  rw [HN.out] at c3 n2 n1
  clear hb c ho c1
  go_wp2_with fail
  go_loop [11] (fun i => ∃ j : Nat, i = .int .i64 (j : Int) ∧ 2 ≤ j ∧ j ≤ n ∧ Hid (∀ i x, 2 ≤ i → i < j → p.pages[i]? = some x → x.1 ≠ 0)) (fun i => n - (intOf i).toNat)
  case atStart => exact ⟨2, rfl, Nat.le_refl _, by omega, hid (fun i x h1 h2 => by omega)⟩
  case round =>
    obtain ⟨j, rfl, hj2, hj, HNo⟩ := hrel
    by_cases hlt : j < n
    · obtain ⟨x, HXx⟩ : ∃ x, Hid (p.pages[j]? = some x) := ⟨p.pages[j]'(by rw [HN.out]; exact hlt), hid (List.getElem?_eq_getElem _)⟩
      obtain ⟨q1, q2, q3, q4, q5⟩ := HX1.out.cells HXx.out
      by_cases h0 : x.1 = 0
      · have HFF : Hid (ffL p.pages = j) := hid (IsFF.eq ⟨hj2, by rw [HN.out]; exact hj, HNo.out, fun y hy => by rw [HXx.out] at hy; cases hy; exact h0⟩)
        have h0i : (x.1 : Int) = 0 := by omega
        rw [h0i] at q1
        have hjn : ((j : Int) == (n : Int)) = false := by rw [beq_eq_false_iff_ne]; omega
        have hwr := write_any (j : Int) va B.length vc B _ HX1.out.2.1 hst hwt HBt.out rfl (fun k hk hm => by
          have h1 := HO.out k hk
          have h2 := HX.out.MF.2.1 k (HX.out.MF.1 k hm)
          omega)
        obtain ⟨E, HEE⟩ : ∃ E, Hid ((writeD p.d (j : Int) B).1 = E) := ⟨_, hid rfl⟩
        obtain ⟨D, HDD⟩ : ∃ D, Hid ((writeD p.d (j : Int) B).2 = D) := ⟨_, hid rfl⟩
        have HDl : Hid (D.L.length = p.d.L.length) := hid (by rw [← HDD.out]; exact write_len _ _ _)
        rw [HEE.out, HDD.out] at hwr
        have HWr := hid hwr
        have HP : Hid (putP p kind s.data.toList = if E ≠ 0 then (0, E, toldP { p with d := D } E) else (j, 0, { p with d := D, pages := p.pages.set j (2, x.2) })) := hid (by
          unfold putP
          have e1 : p.pages.getD j (0, 0) = x := by rw [List.getD, HXx.out]; rfl
          rw [if_neg HD.out, HGg.out, size_toList, HB.out, if_neg (by rw [HE0.out]; simp), HFF.out, if_neg (by rw [HN.out]; omega), HEE.out, HDD.out, e1])
        clear hwr h0 h0i
        by_cases hE : E = 0
        · subst hE
          go_wp2_with fail
          refine HWr.out.mono ?_
          rintro e w2 ⟨rfl, M', F', hd2, hm2, hf2, cc⟩
          have HX2 := hid (HX1.out.disk cc hd2 HDl.out hf2)
          have HM2 := hid hm2
          have HF2 := hid hf2
          have HC2 := hid cc
          clear hd2 hm2 hf2 cc
          go_wp2_with fail
          refine (told_any 0 _ HX2.out).mono ?_
          rintro e w3 ⟨rfl, hX3, c4⟩
          have e3 : toldP { p with d := D } 0 = { p with d := D } := by unfold toldP; simp
          rw [e3] at hX3
          have HX3 := hid hX3
          have HC3 := hid c4
          obtain ⟨q1, q2, q3, q4, q5⟩ := HX3.out.cells (i := j) (y := x) HXx.out
          have c3 := cell_blk HX3.out.1.hp 3
          simp at c3
          rw [HN.out] at c3
          have fin : Hid (∀ W, W = w3.setCell ⟨gb, j * 2, none⟩ (.int .i64 2) → PutPost w pp dp gb mb p M F O kind s.data.toList (.returned (.tuple #[.int .i64 (j : Int), .int .i64 0])) W) := hid (by
            rintro W rfl
            unfold PutPost
            rw [HP.out, if_neg (by simp)]
            obtain ⟨k1, k2⟩ := HX3.out.page1 j 2 x HXx.out
            have hz := HC.out.size
            refine ⟨rfl, M', F', k1, fun k hk => ?_, fun k hk => ?_, ?_⟩
            · rcases HM2.out k hk with h | h
              · exact .inl h
              · exact .inr (by omega)
            · rcases HF2.out k hk with h | h
              · exact .inl h
              · exact .inr (by omega)
            · have cA : Ch (fun k => M k ∨ O k) w w2 := (HC.out.mono (T := fun k => M k ∨ O k) (fun _ _ h => h.elim)).then HC2.out (fun i _ h => .inl h)
              have cB : Ch (fun k => M k ∨ O k) w w3 := cA.then HC3.out (fun i _ h => .inr h)
              exact cB.then k2 (fun i _ h => .inr h))
          clear e3 hX3 c4
          go_wp2_with fail
          go_ret2
          exact fin.out _ rfl
        · have hEb : ((E : Int) == 0) = false := by simpa using hE
          have HE := hid hE
          clear hE
          go_wp2_with fail
          refine HWr.out.mono ?_
          rintro e w2 ⟨rfl, M', F', hd2, hm2, hf2, cc⟩
          have HX2 := hid (HX1.out.disk cc hd2 HDl.out hf2)
          have HM2 := hid hm2
          have HF2 := hid hf2
          have HC2 := hid cc
          clear hd2 hm2 hf2 cc
          go_wp2_with fail
          refine (told_any E _ HX2.out).mono ?_
          rintro e w3 ⟨rfl, hX3, c4⟩
          have fin : Hid (PutPost w pp dp gb mb p M F O kind s.data.toList (.returned (.tuple #[.int .i64 0, .int .i64 (E : Int)])) w3) := hid (by
            unfold PutPost
            rw [HP.out, if_pos HE.out]
            have hz := HC.out.size
            refine ⟨rfl, M', F', hX3, fun k hk => ?_, fun k hk => ?_, ?_⟩
            · rcases HM2.out k hk with h | h
              · exact .inl h
              · exact .inr (by omega)
            · rcases HF2.out k hk with h | h
              · exact .inl h
              · exact .inr (by omega)
            · have cA : Ch (fun k => M k ∨ O k) w w2 := (HC.out.mono (T := fun k => M k ∨ O k) (fun _ _ h => h.elim)).then HC2.out (fun i _ h => .inl h)
              exact cA.then c4 (fun i _ h => .inr h))
          clear hX3 c4
          go_wp2_with fail
          go_ret2
          exact fin.out
      · have h0b : ((x.1 : Int) == 0) = false := by rw [beq_eq_false_iff_ne]; omega
        have HNo2 : Hid (∀ i x, 2 ≤ i → i < j + 1 → p.pages[i]? = some x → x.1 ≠ 0) := hid (fun i y h1 h2 hy => by
          by_cases hij : i < j
          · exact HNo.out i y h1 hij hy
          · obtain rfl : i = j := by omega
            rw [HXx.out] at hy; cases hy; exact h0)
        clear h0
        go_wp2_with fail
        go_round
        case rel => exact ⟨j + 1, by go_num, by omega, by omega, HNo2⟩
        case measure => simp [intOf]; omega
    · obtain rfl : j = n := by omega
      have HP : Hid (putP p kind s.data.toList = (0, 6, p)) := hid (by
        have hff : ffL p.pages = j := IsFF.eq ⟨hj2, by rw [HN.out]; exact hj, HNo.out, fun y hy => by
          have := (List.getElem?_eq_some_iff.1 hy).1
          rw [HN.out] at this; omega⟩
        unfold putP
        rw [if_neg HD.out, HGg.out, size_toList, if_neg (by rw [HE0.out]; simp), hff, if_pos HN.out.symm])
      have fin : Hid (PutPost w pp dp gb mb p M F O kind s.data.toList (.returned (.tuple #[.int .i64 0, .int .i64 6])) w1) := hid (by
        unfold PutPost
        rw [HP.out]
        exact ⟨rfl, M, F, HX1.out, Fresh.refl _ _, Fresh.refl _ _, HC.out.mono (fun _ _ h => h.elim)⟩)
      go_wp2_with fail
      go_ret2
      exact fin.out

end Go.Proofs.Ytadhibemadgcoaa
