/- The reference's pager: its disk's calls, Put. Conditions: as each theorem says. -/
import Derived.Test.YtadhibemadgcoaaRpC
import Derived.Laws.IdiomStrings
namespace Go.Proofs.Ytadhibemadgcoaa
open Go.RowKit

/-- '[]byte(s)'. -/
theorem conv_bytes (w : World) (s : ByteArray) : ∃ cap w', (convert 9 35 (.string s)).run Try.prog w = .ok (.slice (some ⟨w.heap.size, 0, none⟩) s.size cap) w' ∧ Bts w' (.slice (some ⟨w.heap.size, 0, none⟩) s.size cap) s.data.toList ∧ Ch (fun _ => False) w w' := by
  have h := run_bytes_of_string (P := Try.prog) w 9 35 5 s Try.underlying9 Try.underlying35 Try.underlying5
  refine ⟨_, _, h, .inr ⟨w.heap.size, 0, _, _, _, _, by rw [size_toList], ?_, heap_new (w := w.drew) _, fun j hj => ?_⟩, ⟨rfl, rfl, rfl, by show w.heap.size ≤ (w.heap.push _).size; simp, fun k hk _ => by show (w.heap.push _)[k]? = _; rw [Array.getElem?_push, if_neg (by omega)]⟩⟩
  · rw [size_toList]; exact grownCap_ge _ _ _ _
  · have hj2 : j < s.data.size := by simpa using hj
    unfold bytesRow
    rw [Nat.zero_add, Array.getElem?_append_left (by simpa using hj2)]
    simp
    exact ⟨_, Array.getElem?_eq_getElem hj2, rfl⟩

/-- The disk alone has turned. -/
theorem RzI.disked {w0 w w' : World} {rp rq ib fb : Nat} {Pv : Value} {p : Pg} {F : List Int} {M M' Q : Nat → Prop} {d' : Dk} (h : RzI w0 w rp rq ib fb Pv p F M Q) (hc : Ch M w w') (hd : RAt w' rq d' M') (hl : d'.L.length = p.d.L.length) (hF : Fresh w M M') :
    RPost w0 w rp rq { p with d := d' } Q w' := by
  have i := h.inn
  obtain ⟨z1, z2, z3⟩ := (⟨(h.lt _ h.qr).2, (h.lt _ h.qi).2, (h.lt _ h.qf).2⟩ : rp < w.heap.size ∧ ib < w.heap.size ∧ fb < w.heap.size)
  have fr : ∀ k, k < w.heap.size → ¬ M k → w'.heap[k]? = w.heap[k]? := fun k hk hm => hc.block k hk hm
  have hP' : ∀ k, Pv.ownBlock = some k → k < w.heap.size := fun k hk => (h.lt k (h.qp k hk)).2
  refine ⟨fun k => Q k ∨ (w.heap.size ≤ k ∧ k < w'.heap.size), ⟨ib, fb, Pv, F, M', ⟨⟨i.n1, i.n2, i.gen, i.pg, i.pn, (fr _ z1 h.mr).trans i.hp, (fr _ z2 h.mi).trans i.hi, (fr _ z3 h.mf).trans i.hf, i.fl, i.fk, i.z0, ownsRow_frame i.hP (fun k hk => fr k (hP' k hk) (h.mp k hk)), i.e1, i.e2, i.e3⟩, hd, h.len.trans hl.symm, .inl h.qr, .inl h.qi, .inl h.qf, fun k hk => .inl (h.qp k hk), fun k hk => ?_, fun hm => ?_, fun hm => ?_, fun hm => ?_, fun k hk hm => ?_, fun k hk => ?_, h.base.then hc (fun i hi hm => ?_)⟩⟩, fun k hk => ?_, hc.mono (fun k _ hm => h.qm k hm)⟩
  · rcases hF k hk with hm | hm
    · exact .inl (h.qm k hm)
    · exact .inr ⟨hm, hd.lt k hk⟩
  · rcases hF _ hm with hm | hm
    · exact h.mr hm
    · omega
  · rcases hF _ hm with hm | hm
    · exact h.mi hm
    · omega
  · rcases hF _ hm with hm | hm
    · exact h.mf hm
    · omega
  · rcases hF _ hm with hm | hm
    · exact h.mp k hk hm
    · have := hP' k hk; omega
  · have := hc.size
    have := h.base.size
    rcases hk with hk | hk
    · have := h.lt k hk; omega
    · omega
  · have := (h.lt i (h.qm i hm)).1
    omega
  · rcases hk with hk | hk
    · exact .inl hk
    · exact .inr hk.1
section
variable {w0 : World} {rp rq : Nat} {p : Pg} {Q : Nat → Prop}
theorem rwrite_r (a : Int) (x : Option Addr) (len cap : Nat) (b : List UInt8) (w : World) (h : RZ w0 w rp rq p Q) (hst : p.d.steps ≤ 1000000) (hwt : p.d.wait.length ≤ 1000000)
    (hb : Bts w (.slice x len cap) b) (hbl : b.length = len) (hbQ : ∀ k, (Value.slice x len cap).ownBlock = some k → ¬ Q k) :
    Calls Try.prog 74 #[.pointer (some ⟨rq, 0, none⟩), .int .i64 a, .slice x len cap] w fun e w' => e = .returned (.int .i64 ((writeD p.d a b).1 : Nat)) ∧ RPost w0 w rp rq { p with d := (writeD p.d a b).2 } Q w' := by
  obtain ⟨ib, fb, Pv, F, M, h1⟩ := h
  refine (rwrite_any a x len cap b w h1.disk hst hwt hb hbl (fun k hk hm => hbQ k hk (h1.qm k hm))).mono ?_
  rintro e w' ⟨rfl, M', k1, k2, k3⟩
  exact ⟨rfl, h1.disked k3 k1 (write_len _ _ _) k2⟩
theorem rflush_r (w : World) (h : RZ w0 w rp rq p Q) (hst : p.d.steps ≤ 1000000) (hwt : p.d.wait.length ≤ 1000000) :
    Calls Try.prog 93 #[.pointer (some ⟨rq, 0, none⟩)] w fun e w' => e = .returned (.int .i64 ((flushD p.d).1 : Nat)) ∧ RPost w0 w rp rq { p with d := (flushD p.d).2 } Q w' := by
  obtain ⟨ib, fb, Pv, F, M, h1⟩ := h
  refine (rflush_any w h1.disk hst hwt).mono ?_
  rintro e w' ⟨rfl, k1, k3⟩
  exact ⟨rfl, h1.disked k3 k1 (flush_len _) (Fresh.refl _ _)⟩
theorem rread_r (a : Int) (w : World) (h : RZ w0 w rp rq p Q) (hwt : p.d.wait.length ≤ 1000000) :
    Calls Try.prog 92 #[.pointer (some ⟨rq, 0, none⟩), .int .i64 a] w fun e w' => e = .returned (.tuple #[strV (readD p.d a).2, .int .i64 ((readD p.d a).1 : Nat)]) ∧ w = w' := by
  obtain ⟨ib, fb, Pv, F, M, h1⟩ := h
  exact rdread_any a w h1.disk hwt

def RPutPost (w0 w : World) (rp rq : Nat) (p : Pg) (Q : Nat → Prop) (kind : Int) (s : List UInt8) (e : Ending) (w' : World) : Prop :=
  e = .returned (.tuple #[.int .i64 ((putP p kind s).1 : Nat), .int .i64 ((putP p kind s).2.1 : Nat)]) ∧ RPost w0 w rp rq (putP p kind s).2.2 Q w'

set_option maxRecDepth 20000 in
set_option maxHeartbeats 4000000 in
theorem rput_any (kind : Int) (s : ByteArray) (w : World) (h : RZ w0 w rp rq p Q) (hst : p.d.steps ≤ 1000000) (hwt : p.d.wait.length ≤ 1000000) :
    Calls Try.prog 104 #[.pointer (some ⟨rp, 0, none⟩), .int .i64 kind, .string s] w (RPutPost w0 w rp rq p Q kind s.data.toList) := by
  have HR0 := hid h
  obtain ⟨ib, fb, Pv, F, M, h1⟩ := h
  have HX := hid h1
  have n2 := h1.inn.n2
  have n1 := h1.inn.n1
  have hgen := h1.inn.gen
  have c1 := cell_blk h1.inn.hp 1
  have c6 := cell_blk h1.inn.hp 6
  simp at c1 c6
  clear h1
  by_cases hd : p.dead = true
  · have e : putP p kind s.data.toList = (0, 9, p) := by unfold putP; rw [if_pos hd]
    have fin : Hid (RPutPost w0 w rp rq p Q kind s.data.toList (.returned (.tuple #[.int .i64 0, .int .i64 9])) w) := hid (by
      unfold RPutPost; rw [e]; exact ⟨rfl, HR0.out.post (Ch.refl _ _)⟩)
    rw [hd] at c6
    clear c1 e hd
    go_enter Try.func104, Try.ntmps104
    go_wp2_with fail
    go_ret2
    exact fin.out
  have hdf : p.dead = false := by simpa using hd
  rw [hdf] at c6
  have HD := hid hd
  clear hd hdf
  obtain ⟨g, HGg⟩ : ∃ g, Hid (p.gen = g) := ⟨_, hid rfl⟩
  rw [HGg.out] at c1 hgen
  have HSeal := hid (rseal_any kind ((g : Int) + 1) s w)
  by_cases hE : sealE kind ((g : Int) + 1) s.size ≠ 0
  · have e : putP p kind s.data.toList = (0, sealE kind ((g : Int) + 1) s.size, p) := by
      unfold putP; rw [if_neg HD.out, HGg.out, size_toList, if_pos hE]
    have fin : Hid (∀ w', Ch (fun _ => False) w w' → RPutPost w0 w rp rq p Q kind s.data.toList (.returned (.tuple #[.int .i64 0, .int .i64 (sealE kind ((g : Int) + 1) s.size : Nat)])) w') := hid (fun w' hc => by
      unfold RPutPost; rw [e]; exact ⟨rfl, HR0.out.post hc⟩)
    obtain ⟨E, HEE⟩ : ∃ E, Hid (sealE kind ((g : Int) + 1) s.size = E) := ⟨_, hid rfl⟩
    rw [HEE.out] at fin HSeal hE
    have hEb : ((E : Int) != 0) = true := by rw [bne_iff_ne]; omega
    clear hE e
    go_enter Try.func104, Try.ntmps104
    go_wp2_with fail
    refine HSeal.out.mono ?_
    rintro e w1 ⟨v, rfl, -, c⟩
    have HC := hid c
    clear c
    go_wp2_with fail
    go_ret2
    exact fin.out _ HC.out
  have hE0 : sealE kind ((g : Int) + 1) s.size = 0 := by omega
  have HE0 := hid hE0
  rw [hE0] at HSeal
  clear hE hE0
  go_enter Try.func104, Try.ntmps104
  go_wp2_with fail
  refine HSeal.out.mono ?_
  rintro e w1 ⟨t, rfl, hb, c⟩
  obtain ⟨B, HB⟩ : ∃ B, Hid (sealL kind ((g : Int) + 1) s.data.toList = B) := ⟨_, hid rfl⟩
  rw [HB.out] at hb
  have HBt := hid hb
  have HC := hid c
  have HX1 := hid (HX.out.ch c (fun _ _ h => h) (fun _ _ h => h))
  have HR1 := hid (HR0.out.ch c (fun _ _ h => h) (fun _ _ h => h))
  have c3 := cell_blk HX1.out.inn.hp 3
  have c0 := cell_blk HX1.out.inn.hp 0
  simp at c3 c0
  obtain ⟨n, HN⟩ : ∃ n, Hid (p.pages.length = n) := ⟨_, hid rfl⟩
  rw [HN.out] at c3 n2 n1
  obtain ⟨cap, w2, hcv, hbt, hc2⟩ := conv_bytes w1 t
  rw [hb] at hbt
  have hR2 := HR1.out.ch hc2 (fun _ _ h => h) (fun _ _ h => h)
  have hlt1 := HR1.out.lt
  have hwr := fun j : Int => rwrite_r j (some ⟨w1.heap.size, 0, none⟩) t.size cap B w2 hR2 hst hwt hbt (by rw [← hb, size_toList]) (fun k hk hq => by
    obtain rfl : w1.heap.size = k := by simpa [Value.ownBlock] using hk
    have := (hlt1 _ hq).2
    omega)
  have HWr := hid hwr
  have HC2 := hid (c.trans hc2)
  have HCv := hid hcv
  clear hb c c1 hbt hR2 hlt1 hwr hc2 hcv
  go_wp2_with fail
  go_loop [10] (fun i => ∃ j : Nat, i = .int .i64 (j : Int) ∧ 2 ≤ j ∧ j ≤ n ∧ Hid (∀ i x, 2 ≤ i → i < j → p.pages[i]? = some x → x.1 ≠ 0)) (fun i => n - (intOf i).toNat)
  case atStart => exact ⟨2, rfl, Nat.le_refl _, by omega, hid (fun i x h1 h2 => by omega)⟩
  case round =>
    obtain ⟨j, rfl, hj2, hj, HNo⟩ := hrel
    by_cases hlt : j < n
    · obtain ⟨x, HXx⟩ : ∃ x, Hid (p.pages[j]? = some x) := ⟨p.pages[j]'(by rw [HN.out]; exact hlt), hid (List.getElem?_eq_getElem _)⟩
      obtain ⟨q1, q2, q3⟩ := HX1.out.cell HXx.out
      by_cases h0 : x.1 = 0
      · have HFF : Hid (ffL p.pages = j) := hid (IsFF.eq ⟨hj2, by rw [HN.out]; exact hj, HNo.out, fun y hy => by rw [HXx.out] at hy; cases hy; exact h0⟩)
        have h0i : (x.1 : Int) = 0 := by omega
        rw [h0i] at q1
        have hwr := HWr.out (j : Int)
        have hcv := HCv.out
        obtain ⟨E, HEE⟩ : ∃ E, Hid ((writeD p.d (j : Int) B).1 = E) := ⟨_, hid rfl⟩
        obtain ⟨D, HDD⟩ : ∃ D, Hid ((writeD p.d (j : Int) B).2 = D) := ⟨_, hid rfl⟩
        rw [HEE.out, HDD.out] at hwr
        have HWj := hid hwr
        have HP : Hid (putP p kind s.data.toList = if E ≠ 0 then (0, E, toldP { p with d := D } E) else (j, 0, { p with d := D, pages := p.pages.set j (2, x.2) })) := hid (by
          unfold putP
          have e1 : p.pages.getD j (0, 0) = x := by rw [List.getD, HXx.out]; rfl
          rw [if_neg HD.out, HGg.out, size_toList, HB.out, if_neg (by rw [HE0.out]; simp), HFF.out, if_neg (by rw [HN.out]; omega), HEE.out, HDD.out, e1])
        have HXb := hid (HX.out.inn.pg x (List.mem_of_getElem? HXx.out))
        clear hwr h0 h0i
        by_cases hE : E = 0
        · subst hE
          go_wp2_with fail
          refine HWj.out.mono ?_
          rintro e w3 ⟨rfl, Q3, hr3, hf3, hc3⟩
          have htl := rtold_any 0 w3 hr3
          have e3 : toldP { p with d := D } 0 = { p with d := D } := by unfold toldP; simp
          rw [e3] at htl
          have HTl := hid htl
          have HF3 := hid hf3
          have HC3 := hid hc3
          clear hr3 hf3 hc3 htl e3
          go_wp2_with fail
          refine HTl.out.mono ?_
          rintro e w4 ⟨rfl, Q4, hr4, hf4, hc4⟩
          obtain ⟨ib4, fb4, Pv4, F4, M4, h4⟩ := hr4
          have d3 := cell_blk h4.inn.hp 3
          simp at d3
          rw [HN.out] at d3
          obtain ⟨y1, y2, y3⟩ := h4.cell (i := j) (x := x) HXx.out
          have g := hid (h4.is1 j (2, x.2) (by simp) HXb.out (.inl hj2))
          have HF4 := hid hf4
          have HC4 := hid hc4
          clear h4 hf4 hc4
          go_wp2_with fail
          go_ret2
          have hP := HP.out
          rw [if_neg (by simp)] at hP
          unfold RPutPost
          rw [hP]
          refine ⟨rfl, ?_⟩
          have k4 : RPost w0 w3 rp rq { p with d := D, pages := p.pages.set j (2, x.2) } Q3 (w4.setCell ⟨ib4, j, none⟩ (.int .i64 2)) :=
            RPost.trans HF4.out HC4.out ⟨Q4, ⟨ib4, fb4, Pv4, F4, M4, g.out.1⟩, Fresh.refl _ _, g.out.2⟩
          exact RPost.trans (Fresh.refl _ _) (HC2.out.mono (fun _ _ h => h.elim)) (RPost.trans HF3.out HC3.out k4)
        · have hEb : ((E : Int) != 0) = true := by rw [bne_iff_ne]; omega
          have HE := hid hE
          clear hE
          go_wp2_with fail
          refine HWj.out.mono ?_
          rintro e w3 ⟨rfl, Q3, hr3, hf3, hc3⟩
          have HTl := hid (rtold_any E w3 hr3)
          have HF3 := hid hf3
          have HC3 := hid hc3
          clear hr3 hf3 hc3
          go_wp2_with fail
          refine HTl.out.mono ?_
          rintro e w4 ⟨rfl, hr4⟩
          have HR4 := hid hr4
          clear hr4
          go_wp2_with fail
          go_ret2
          have hP := HP.out
          rw [if_pos HE.out] at hP
          unfold RPutPost
          rw [hP]
          exact ⟨rfl, RPost.trans (Fresh.refl _ _) (HC2.out.mono (fun _ _ h => h.elim)) (RPost.trans HF3.out HC3.out HR4.out)⟩
      · have h0b : ((x.1 : Int) == 0) = false := by rw [beq_eq_false_iff_ne]; omega
        have HNo2 : Hid (∀ i y, 2 ≤ i → i < j + 1 → p.pages[i]? = some y → y.1 ≠ 0) := hid (fun i y h1 h2 hy => by
          by_cases hij : i = j
          · subst hij; rw [HXx.out] at hy; cases hy; exact h0
          · exact HNo.out i y h1 (by omega) hy)
        clear h0
        go_wp2_with fail
        go_round
        case rel => exact ⟨j + 1, by go_num, by omega, by omega, HNo2⟩
        case measure => simp [intOf]; omega
    · obtain rfl : j = n := by omega
      have HFF : Hid (ffL p.pages = j) := hid (IsFF.eq ⟨hj2, by rw [HN.out]; exact hj, HNo.out, fun y hy => by
        have := (List.getElem?_eq_some_iff.1 hy).1
        rw [HN.out] at this
        omega⟩)
      have fin : Hid (RPutPost w0 w rp rq p Q kind s.data.toList (.returned (.tuple #[.int .i64 0, .int .i64 6])) w1) := hid (by
        unfold RPutPost putP
        rw [if_neg HD.out, HGg.out, size_toList, if_neg (by rw [HE0.out]; simp), HFF.out, HN.out, if_pos rfl]
        exact ⟨rfl, HR0.out.post HC.out⟩)
      go_wp2_with fail
      go_ret2
      exact fin.out
end

end Go.Proofs.Ytadhibemadgcoaa
