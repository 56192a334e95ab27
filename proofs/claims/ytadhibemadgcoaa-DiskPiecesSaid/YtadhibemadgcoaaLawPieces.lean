/- DiskPieces answers true: the writes. Conditions: the arguments are slices of calls and keeps. -/
import Derived.Test.YtadhibemadgcoaaDiskS
import Derived.Test.YtadhibemadgcoaaLawAll
import Derived.Carry
namespace Go.Proofs.Ytadhibemadgcoaa
open Go.RowKit

theorem Try.zero35 (w : World) : (zeroValue 35).run Try.prog w = .ok (.slice none 0 0) w := by kernel_rfl

set_option maxRecDepth 100000 in
set_option maxHeartbeats 4000000 in
theorem pieces_any (n : Int) (a : Option Addr) (cap : Nat) (l : List AcV) (a2 : Option Addr) (cap2 : Nat) (l2 : List AcV) (qa : Option Addr) (qcap : Nat) (kept : List (Int × Int)) (w : World)
    (h : Acs w (.slice a l.length cap) l) (h2 : Acs w (.slice a2 l2.length cap2) l2) (hk : Kps w (.slice qa kept.length qcap) kept) :
    Calls Try.prog 3 #[.int .i64 n, .slice a l.length cap, .slice a2 l2.length cap2, .slice qa kept.length qcap] w fun e w' => e = .returned (.bool true) ∧ Ch (fun _ => False) w w' := by
  have HA := hid h
  have HA2 := hid h2
  have HK := hid hk
  clear h h2 hk
  go_enter Try.func3, Try.ntmps3
  go_wp2_with fail
  refine (play_any n a cap l _ HA.out).mono ?_
  rintro e w1 ⟨c1, he⟩
  have HC1 := hid c1
  clear c1
  rcases he with rfl | ⟨p, d, M, F, rfl, hn1, hn2, hD, hPl, hM⟩
  · go_wp2_with fail
    refine (alive1 _).mono ?_
    rintro e w2 ⟨rfl, c2⟩
    have HC2 := hid (HC1.out.trans c2)
    clear c2
    go_wp2_with fail
    go_ret
    exact ⟨rfl, HC2.out⟩
  by_cases h30 : (30 : Int) < l2.length
  · clear hD hPl hM
    go_wp2_with fail
    refine (alive1 _).mono ?_
    rintro e w2 ⟨rfl, c2⟩
    have HC2 := hid (HC1.out.trans c2)
    clear c2
    go_wp2_with fail
    go_ret
    exact ⟨rfl, HC2.out⟩
  by_cases h200 : (200 : Int) < kept.length
  · clear hD hPl hM
    go_wp2_with fail
    refine (alive1 _).mono ?_
    rintro e w2 ⟨rfl, c2⟩
    have HC2 := hid (HC1.out.trans c2)
    clear c2
    go_wp2_with fail
    go_ret
    exact ⟨rfl, HC2.out⟩
  obtain ⟨n, rfl⟩ : ∃ k : Nat, n = (k : Int) := ⟨n.toNat, by omega⟩
  rw [Int.toNat_natCast] at hPl
  have hl230 : l2.length ≤ 30 := by omega
  have HP := hid hPl
  have HM := hid hM
  have hfl := flush_any w1 hD (by have := hPl.steps; omega) (by have := hPl.wait; omega)
  have HFl := hid hfl
  clear hD hPl hM HA hfl
  by_cases hE : (flushD d).1 = 0
  · rw [hE] at HFl
    have HY := hid (flush_yes hE)
    have HPf := hid (HP.out.flush)
    clear hE
    go_wp2_with fail
    refine HFl.out.mono ?_
    rintro e w2 ⟨rfl, hD2, c2⟩
    have HD2 := hid hD2
    have HC2 := hid (HC1.out.then c2 (fun i hi h => by have := HM.out i h; omega))
    obtain ⟨d2, Hd2⟩ : ∃ d2, Hid ((flushD d).2 = d2) := ⟨_, hid rfl⟩
    have hw0 : d2.wait = [] := by rw [← Hd2.out, HY.out.2]
    rw [Hd2.out] at HD2 HPf
    have HW0 := hid hw0
    have HM2 : Hid (∀ k, M k → w.heap.size ≤ k) := hid (fun k hk => HM.out k hk)
    clear hD2 c2 hw0 HY HFl HM
    go_wp2_with (go_at_call 22; refine (no1_any _ _).mono ?_; rintro e w' ⟨rfl, rfl⟩)
    refine (crash_any none 0 [] _ HD2.out (by rw [HW0.out]; simp) (by simp) (.inl ⟨_, _, rfl, rfl⟩)).mono ?_
    rintro e w3 ⟨pb, Mb, rfl, hD3, c3, m3⟩
    have HD2s := hid HD2.out.sane
    have HLb : Hid ((crashD d2 []).L = d2.L) := hid (crash_wait_nil HW0.out [])
    obtain ⟨db, Hdb⟩ : ∃ db, Hid (crashD d2 [] = db ∧ db.wait = [] ∧ db.gone = false) := ⟨_, hid ⟨rfl, rfl, rfl⟩⟩
    rw [Hdb.out.1] at hD3 HLb
    have hI : PcI w (w3.alloc (.map #[] 0)) p pb w3.heap.size d2.L db Mb 0 := by
      have hz3 := c3.size
      refine ⟨d2, M, F, [], fun _ => .slice none 0 0, (HD2.out.ch c3 (fun _ _ h => h)).ch ((Ch.refl (fun _ => False) _).alloc _) (fun _ _ h => h), ⟨rfl, HW0.out, by simp, HPf.out.steps, Nat.zero_le _⟩,
        Mw.start (fun k hk => by have := HD2.out.ltF.1 k hk; omega) (HC2.out.trans c3).size, HM2.out, hD3.ch ((Ch.refl (fun _ => False) _).alloc _) (fun _ _ h => h), fun k hk => ⟨fun hm => ?_, ?_, fun q hq => by cases hq⟩, (HC2.out.trans c3).alloc _⟩
      · have := HD2.out.lt k hm; have := m3 k hk; omega
      · have := hD3.lt k hk; omega
    have HI := hid hI
    have HA3 := hid (HA2.out.ch ((HC2.out.trans c3).alloc (.map #[] 0)) (fun _ _ h => h))
    have hmk := run_makeMap (P := Try.prog) 31 w3
    clear hD3 c3 m3 hI HD2 HC2
    go_wp2_with fail
    clear hmk
    obtain ⟨w4, hw4⟩ : ∃ w4, w4 = w3.alloc (.map #[] 0) := ⟨_, rfl⟩
    rw [← hw4] at HI HA3 ⊢
    obtain ⟨mb, hmb⟩ : ∃ mb, mb = w3.heap.size := ⟨_, rfl⟩
    rw [← hmb] at HI ⊢
    clear hw4 hmb
    go_loopw [50] (fun i wr => ∃ j : Nat, i = .int .i64 (j : Int) ∧ j ≤ l2.length ∧ Hid (PcI w wr p pb mb d2.L db Mb j)) (fun i _ => l2.length - (intOf i).toNat)
    case atStart => exact ⟨0, rfl, Nat.zero_le _, HI⟩
    case round =>
      obtain ⟨j, rfl, hj, HI⟩ := hrel
      by_cases hlt : j < l2.length
      · obtain ⟨x, HX⟩ : ∃ x, Hid (l2[j]? = some x) := ⟨l2[j]'hlt, hid (List.getElem?_eq_getElem _)⟩
        obtain ⟨dd, M, F, W, f, hD, hWr, hMw, hM, hDb, hMb, hC⟩ := HI.out
        obtain ⟨b, off, rfl, hat⟩ := (HA2.out.ch hC (fun _ _ h => h)).get HX.out
        obtain ⟨k, a', n', c, kv, ks⟩ := x
        obtain ⟨c0, c1, c2, c3, c4, hkept, hn', hblt⟩ := hat
        dsimp only at c0 c1 c2 c3 c4 hkept hn'
        obtain ⟨ka, kcap, hkv⟩ := hkept.form
        obtain ⟨kl, hkl⟩ : ∃ kl, kl = ks.length := ⟨_, rfl⟩
        rw [← hkl] at hkv
        subst hkv
        have HD := hid (hD.ch ((Ch.refl (fun _ => False) wr).alloc (.cells #[.int .i64 k, .int .i64 a', .int .i64 n', .int .u8 (c.toNat : Int), .slice ka kl kcap] 33)) (fun _ _ h => h))
        have HDo := hid hD
        have HDb := hid hDb
        have HWr := hid hWr
        have HMw := hid hMw
        have HM := hid hM
        have HMb := hid hMb
        have HC := hid hC
        have HSt : Hid (dd.steps ≤ 1000000) := hid (by have := hWr.steps; omega)
        have HWt : Hid (dd.wait.length ≤ 1000000) := hid (by have := hWr.many; rw [hWr.wait]; simp [ofW]; omega)
        have HF5 := hid (five_new wr (.int .i64 k) (.int .i64 a') (.int .i64 n') (.int .u8 (c.toNat : Int)) (.slice ka kl kcap))
        clear hD hDb hWr hMw hM hMb hC HI hkept hkl
        rcases HWr.out.write a' c with ⟨hE, ha, hW2⟩ | ⟨hE, hW2⟩
        · have HE := hid hE
          have HW2 := hid hW2
          obtain ⟨a', rfl⟩ := Int.eq_ofNat_of_zero_le ha.1
          clear hE hW2 ha
          go_wp2_with fail
          refine wp_region_noPanic ?_
          refine wp_region_held_drew (S := (fun W => W.cell? ⟨wr.heap.size, 0, none⟩ = some (.int .i64 k) ∧ W.cell? ⟨wr.heap.size, 1, none⟩ = some (.int .i64 (a' : Int)) ∧ W.cell? ⟨wr.heap.size, 2, none⟩ = some (.int .i64 n') ∧ W.cell? ⟨wr.heap.size, 3, none⟩ = some (.int .u8 (c.toNat : Int)) ∧ W.cell? ⟨wr.heap.size, 4, none⟩ = some (.slice ka kl kcap))) (by kernel_rfl) HF5.out (fun hHeld => ?_)
          refine wpAnyH_take (i := 0) (v := ?_) rfl (by kernel_rfl) (by kernel_rfl) (by kernel_rfl) (fun _ _ _ h => h) (Or.inl ⟨by rfl, ?_⟩) (by assumption) ?_
          rotate_left
          · intro w hSw
            try dsimp only at hSw
            go_simp
            all_goals with_reducible rfl
          try simp only [lay_all]
          refine wpAnyH_take (i := 1) (v := ?_) rfl (by kernel_rfl) (by kernel_rfl) (by kernel_rfl) (fun _ _ _ h => h) (Or.inl ⟨by rfl, ?_⟩) (by assumption) ?_
          rotate_left
          · intro w hSw
            try dsimp only at hSw
            go_simp
            all_goals with_reducible rfl
          try simp only [lay_all]
          refine wpAnyH_take (i := 2) (v := ?_) rfl (by kernel_rfl) (by kernel_rfl) (by kernel_rfl) (fun _ _ _ h => h) (Or.inl ⟨by rfl, ?_⟩) (by assumption) ?_
          rotate_left
          · intro w hSw
            try dsimp only at hSw
            go_simp
            all_goals with_reducible rfl
          try simp only [lay_all]
          refine wpAnyH_take (i := 3) (v := ?_) rfl (by kernel_rfl) (by kernel_rfl) (by kernel_rfl) (fun _ _ _ h => h) (Or.inl ⟨by rfl, ?_⟩) (by assumption) ?_
          rotate_left
          · intro w hSw
            try dsimp only at hSw
            go_simp
            all_goals with_reducible rfl
          try simp only [lay_all]
          refine wpAnyH_take (i := 4) (v := ?_) rfl (by kernel_rfl) (by kernel_rfl) (by kernel_rfl) (fun _ _ _ h => h) (Or.inl ⟨by rfl, ?_⟩) (by assumption) ?_
          rotate_left
          · intro w hSw
            try dsimp only at hSw
            go_simp
            all_goals with_reducible rfl
          try simp only [lay_all]
          refine wpAnyH_ready (rs := [5]) (by kernel_rfl) (by simp) ?_
          refine AllReadyH.cons rfl (fun K hK => ?_) AllReadyH.nil
          go_simp
          refine (of_any c _).mono ?_
          rintro e w2 ⟨rfl, hs2, c2⟩
          have HB2 := hid hs2.bts
          have HD2 := hid ((HD.out.ch (Ch.refl (fun _ => False) _).drew (fun _ _ h => h)).ch c2 (fun _ _ h => h))
          have HC2 := hid (((Ch.refl (fun _ => False) wr).alloc (.cells #[.int .i64 k, .int .i64 (a' : Int), .int .i64 n', .int .u8 (c.toNat : Int), .slice ka kl kcap] 33)).drew.trans c2)
          have HS2 := hid (keep5 hHeld c2 (fun _ _ h => h))
          have HG : Hid (∀ q, (Value.slice (some ⟨wr.heap.size + 1, 0, none⟩) 512 512).ownBlock = some q → ¬ M q) := hid (fun q hq hm => by
              obtain rfl : wr.heap.size + 1 = q := by simpa [Value.ownBlock] using hq
              have := HDo.out.lt _ hm
              omega)
          clear hs2 c2
          go_wp2_with fail
          refine hK.out _ _ ?_ (fun hHeld => ?_)
          · first | exact HS2.out | assumption
          clear hK K
          try simp only [lay_all]
          refine wpAnyH_ready (rs := [6]) (by kernel_rfl) (by simp) ?_
          refine AllReadyH.cons rfl (fun K hK => ?_) AllReadyH.nil
          go_simp
          refine (write_any (a' : Int) _ 512 512 (ofB c) _ HD2.out HSt.out HWt.out (by simpa [secV] using HB2.out) (ofB_length _) HG.out).mono ?_
          rintro e w3 ⟨he, M4, F4, hD4, hm4, hf4, c4⟩
          rw [HE.out] at he
          subst he
          have HD4 := hid hD4
          have HM4 := hid hm4
          have HF4 := hid hf4
          have HC4 := hid c4
          have HS2 := hid (keep5 HS2.out c4 (fun q hq hm => by have := HDo.out.lt _ hm; omega))
          clear hD4 hm4 hf4 c4
          go_wp2_with fail
          refine hK.out _ _ ?_ (fun hHeld => ?_)
          · first | exact HS2.out | assumption
          clear hK K
          try simp only [lay_all]
          refine wpAnyH_ready (rs := [7]) (by kernel_rfl) (by simp) ?_
          refine AllReadyH.cons rfl (fun K hK => ?_) AllReadyH.nil
          go_simp
          refine (no1_any _ _).mono ?_
          rintro e w' ⟨rfl, rfl⟩
          go_wp2_with fail
          refine hK.out _ _ ?_ (fun hHeld => ?_)
          · first | exact HS2.out | assumption
          clear hK K
          try simp only [lay_all]
          refine wpAnyH_take (i := 8) (v := ?_) rfl (by kernel_rfl) (by kernel_rfl) (by kernel_rfl) (fun _ _ _ h => h) (Or.inl ⟨by rfl, ?_⟩) (by assumption) ?_
          rotate_left
          · intro w hSw
            try dsimp only at hSw
            go_simp
            all_goals with_reducible rfl
          try simp only [lay_all]
          refine wpAnyH_done (by kernel_rfl) ?_ _
          refine NoPanic.normal ?_
          go_wp2_with fail
          obtain ⟨g1, g2, g3, g4, g5⟩ := HMw.out.wrote HM.out HDo.out.ltF.2 HDb.out HMb.out HC.out HC2.out HC4.out HM4.out HF4.out HD4.out
          have ha63 : (Lit.int .i64 (a' : Int)).wf = true := int_wf (by omega) (by have := HW2.out.ins (a', c) (by simp); have := HPf.out.len; omega)
          have hlk1 := (g1.ch (Ch.refl (fun _ => False) w3).drew (fun _ h => h.elim) (fun k h => .inl h)).at_.lookup Try.underlying3 Try.underlying31 (Try.zero35 _) (a' : Int) ha63
          have c5 := ((Ch.refl (fun _ => False) w3).alloc (.cells #[.int .u8 (c.toNat : Int)] 5)).drew
          have g6 := g1.ch c5 (fun _ h => h.elim) (fun k h => .inl h)
          have hlk2 := g6.at_.lookup Try.underlying3 Try.underlying31 (Try.zero35 _) (a' : Int) ha63
          obtain ⟨v', w5, hrun, hown, hch5, hv5⟩ := run_append_own2 (P := Try.prog) (w3.alloc (.cells #[.int .u8 (c.toNat : Int)] 5)).drew 35 35 5 (.int .u8 0) 1 1 Try.underlying35 Try.info5 rfl (by omega) (f a') (wroteI W a').length (bcells (wroteI W a')) (g6.own a')
            ⟨w3.heap.size, 0, none⟩ 1 1 [.int .u8 (c.toNat : Int)] rfl (by
              intro i u hu
              rw [add_plain, cell_blk (heap_drew (heap_new _)), Nat.zero_add]
              simpa using hu) (by intro u hu; simp at hu; rcases hu with rfl; rfl) (by unfold maxLen; have := wroteI_length W a'; have := HWr.out.many; omega) (by have := wroteI_length W a'; have := HWr.out.many; omega)
          obtain ⟨w6, hup, hat6, hch6⟩ := (g6.at_.ch hch5 (fun e => (g6.no _ _ e).1 rfl)).update Try.underlying3 Try.underlying31 (by unfold maxLen; omega) (a' : Int) ha63 v'
          obtain ⟨g7, g8⟩ := g1.step (fun k hk => HD4.out.ltF.1 k hk) g5.size c5 a' c v' hown hch5 hv5 hat6 hch6
          have HN : Hid (PcI w w6 p pb mb d2.L db Mb (j + 1)) := hid (by
            have dis : ∀ k, F4 k → ¬ (k = mb ∨ (f a').ownBlock = some k) := fun k hk e => by
              rcases e with rfl | e
              · exact g1.nom hk
              · exact (g1.no _ _ e).2.2 hk
            refine ⟨_, M4, F4, _, _, HD4.out.ch g8 dis, HW2.out, g7, g2, g3.ch g8 (fun k hk e => ?_), fun k hk => ⟨(g4 k hk).1, (g4 k hk).2.1, fun q e => ?_⟩, g5.then g8 (fun i hi e => ?_)⟩
            · rcases e with e | e
              · exact (g4 k hk).2.1 e
              · exact (g4 k hk).2.2 _ e
            · by_cases hq : q = (a' : Int)
              · rw [if_pos hq] at e
                rcases hv5 with e5 | e5
                · rw [e5] at e; exact (g4 k hk).2.2 _ e
                · have := e5 k e; have := g3.lt k hk; have := c5.size; omega
              · rw [if_neg hq] at e
                exact (g4 k hk).2.2 _ e
            · have := g5.size
              rcases e with rfl | e
              · have := g1.new; omega
              · have := (g1.no _ _ e).2.1; omega)
          have HSA := hid (keep5 HS2.out (Ch.refl (fun _ => False) w3).drew (fun _ _ h => h))
          have HSB := hid (keep5 HS2.out c5 (fun _ _ h => h))
          have HSC := hid (keep5 HSB.out hch5 (fun q hq e => by have := ((HMw.out.own a').lt q e).2; omega))
          have HSD := hid (keep5 HSC.out hch6 (fun q hq e => by have := HMw.out.at_.lt; omega))
          have HLk1 := hid hlk1
          have HLk2 := hid hlk2
          have HRun := hid hrun
          have HUp := hid hup
          clear hlk1 hlk2 hrun hup hown hch5 hv5 hat6 hch6 g1 g2 g3 g4 g5 g6 g7 g8 c5
          refine wp_region_noPanic ?_
          refine wp_region_held_drew (S := (fun W => W.cell? ⟨wr.heap.size, 0, none⟩ = some (.int .i64 k) ∧ W.cell? ⟨wr.heap.size, 1, none⟩ = some (.int .i64 (a' : Int)) ∧ W.cell? ⟨wr.heap.size, 2, none⟩ = some (.int .i64 n') ∧ W.cell? ⟨wr.heap.size, 3, none⟩ = some (.int .u8 (c.toNat : Int)) ∧ W.cell? ⟨wr.heap.size, 4, none⟩ = some (.slice ka kl kcap))) (by kernel_rfl) HSA.out (fun hHeld => ?_)
          refine wpAnyH_take (i := 0) (v := ?_) rfl (by kernel_rfl) (by kernel_rfl) (by kernel_rfl) (fun _ _ _ h => h) (Or.inl ⟨by rfl, ?_⟩) (by assumption) ?_
          rotate_left
          · intro w hSw
            try dsimp only at hSw
            go_simp
            all_goals with_reducible rfl
          try simp only [lay_all]
          refine wpAnyH_take (i := 1) (v := ?_) rfl (by kernel_rfl) (by kernel_rfl) (by kernel_rfl) (fun _ _ _ h => h) (Or.inl ⟨by rfl, ?_⟩) (by assumption) ?_
          rotate_left
          · intro w hSw
            try dsimp only at hSw
            go_simp
            all_goals with_reducible rfl
          try simp only [lay_all]
          refine wpAnyH_take (i := 2) (v := ?_) rfl (by kernel_rfl) (by kernel_rfl) (by kernel_rfl) (fun _ _ _ h => h) (Or.inl ⟨by rfl, ?_⟩) (by assumption) ?_
          rotate_left
          · intro w hSw
            try dsimp only at hSw
            go_simp
            all_goals with_reducible rfl
          try simp only [lay_all]
          refine wpAnyH_take (i := 3) (v := ?_) rfl (by kernel_rfl) (by kernel_rfl) (by kernel_rfl) (fun _ _ _ h => h) (Or.inl ⟨by rfl, ?_⟩) (by assumption) ?_
          rotate_left
          · intro w hSw
            try dsimp only at hSw
            go_simp
            all_goals with_reducible rfl
          try simp only [lay_all]
          refine wpAnyH_take (i := 4) (v := ?_) rfl (by kernel_rfl) (by kernel_rfl) (by kernel_rfl) (fun _ _ _ h => h) (Or.inl ⟨by rfl, ?_⟩) (by assumption) ?_
          rotate_left
          · intro w hSw
            try dsimp only at hSw
            go_simp
            all_goals with_reducible rfl
          try simp only [lay_all]
          refine wpAnyH_take (i := 5) (v := ?_) rfl (by kernel_rfl) (by kernel_rfl) (by kernel_rfl) (fun _ _ _ h => h) (Or.inl ⟨by rfl, ?_⟩) (by assumption) ?_
          rotate_left
          · intro w hSw
            try dsimp only at hSw
            go_simp
            all_goals with_reducible rfl
          try simp only [lay_all]
          refine wpAnyH_take (i := 7) (v := ?_) rfl (by kernel_rfl) (by kernel_rfl) (by kernel_rfl) (fun _ _ _ h => h) (Or.inl ⟨by rfl, ?_⟩) (by assumption) ?_
          rotate_left
          · intro w hSw
            try dsimp only at hSw
            go_simp
            all_goals with_reducible rfl
          try simp only [lay_all]
          refine wpAnyH_take (i := 8) (v := ?_) rfl (by kernel_rfl) (by kernel_rfl) (by kernel_rfl) (fun _ _ _ h => h) (Or.inl ⟨by rfl, ?_⟩) (by assumption) ?_
          rotate_left
          · intro w hSw
            try dsimp only at hSw
            go_simp
            all_goals with_reducible rfl
          try simp only [lay_all]
          refine wpAnyH_ready (rs := [6, 9]) (by kernel_rfl) (by simp) ?_
          refine AllReadyH.cons rfl (fun K hK => ?_) (AllReadyH.cons rfl (fun K hK => ?_) AllReadyH.nil)
          · have hl := HLk1.out
            go_simp
            clear hl
            refine hK.out _ _ ?_ (fun hHeld => ?_)
            · first | assumption | exact HSA.out | exact HSB.out | exact HSC.out | exact HSD.out
            clear hK K
            try simp only [lay_all]
            refine wpAnyH_ready (rs := [9]) (by kernel_rfl) (by simp) ?_
            refine AllReadyH.cons rfl (fun K hK => ?_) AllReadyH.nil
            go_simp
            refine hK.out _ _ ?_ (fun hHeld => ?_)
            · first | assumption | exact HSA.out | exact HSB.out | exact HSC.out | exact HSD.out
            clear hK K
            try simp only [lay_all]
            refine wpAnyH_ready (rs := [10]) (by kernel_rfl) (by simp) ?_
            refine AllReadyH.cons rfl (fun K hK => ?_) AllReadyH.nil
            refine step_append_run rfl (.tmp 69) (.tmp 72) 35 35 rfl _ _ HRun.out ?_
            refine hK.out _ _ ?_ (fun hHeld => ?_)
            · first | assumption | exact HSA.out | exact HSB.out | exact HSC.out | exact HSD.out
            clear hK K
            try simp only [lay_all]
            refine wpAnyH_ready (rs := [11]) (by kernel_rfl) (by simp) ?_
            refine AllReadyH.cons rfl (fun K hK => ?_) AllReadyH.nil
            have hu := HUp.out
            go_simp
            clear hu
            refine hK.out _ _ ?_ (fun hHeld => ?_)
            · first | assumption | exact HSA.out | exact HSB.out | exact HSC.out | exact HSD.out
            clear hK K
            try simp only [lay_all]
            refine wpAnyH_done (by kernel_rfl) ?_ _
            refine NoPanic.normal ?_
            go_wp2_with fail
            go_roundw
            case rel => exact ⟨j + 1, by go_num, by omega, HN⟩
            case measure => simp [intOf]; omega
          · go_simp
            refine hK.out _ _ ?_ (fun hHeld => ?_)
            · first | assumption | exact HSA.out | exact HSB.out | exact HSC.out | exact HSD.out
            clear hK K
            try simp only [lay_all]
            refine wpAnyH_ready (rs := [6]) (by kernel_rfl) (by simp) ?_
            refine AllReadyH.cons rfl (fun K hK => ?_) AllReadyH.nil
            have hl := HLk2.out
            go_simp
            clear hl
            refine hK.out _ _ ?_ (fun hHeld => ?_)
            · first | assumption | exact HSA.out | exact HSB.out | exact HSC.out | exact HSD.out
            clear hK K
            try simp only [lay_all]
            refine wpAnyH_ready (rs := [10]) (by kernel_rfl) (by simp) ?_
            refine AllReadyH.cons rfl (fun K hK => ?_) AllReadyH.nil
            refine step_append_run rfl (.tmp 69) (.tmp 72) 35 35 rfl _ _ HRun.out ?_
            refine hK.out _ _ ?_ (fun hHeld => ?_)
            · first | assumption | exact HSA.out | exact HSB.out | exact HSC.out | exact HSD.out
            clear hK K
            try simp only [lay_all]
            refine wpAnyH_ready (rs := [11]) (by kernel_rfl) (by simp) ?_
            refine AllReadyH.cons rfl (fun K hK => ?_) AllReadyH.nil
            have hu := HUp.out
            go_simp
            clear hu
            refine hK.out _ _ ?_ (fun hHeld => ?_)
            · first | assumption | exact HSA.out | exact HSB.out | exact HSC.out | exact HSD.out
            clear hK K
            try simp only [lay_all]
            refine wpAnyH_done (by kernel_rfl) ?_ _
            refine NoPanic.normal ?_
            go_wp2_with fail
            go_roundw
            case rel => exact ⟨j + 1, by go_num, by omega, HN⟩
            case measure => simp [intOf]; omega
        · obtain ⟨E, HE⟩ : ∃ E, Hid ((writeD dd a' (ofB c)).1 = E) := ⟨_, hid rfl⟩
          rw [HE.out] at hE
          have hEb : ((E : Int) == 0) = false := by simpa using hE
          have HW2 := hid hW2
          clear hE hW2
          go_wp2_with fail
          refine wp_region_noPanic ?_
          refine wp_region_held_drew (S := (fun W => W.cell? ⟨wr.heap.size, 0, none⟩ = some (.int .i64 k) ∧ W.cell? ⟨wr.heap.size, 1, none⟩ = some (.int .i64 a') ∧ W.cell? ⟨wr.heap.size, 2, none⟩ = some (.int .i64 n') ∧ W.cell? ⟨wr.heap.size, 3, none⟩ = some (.int .u8 (c.toNat : Int)) ∧ W.cell? ⟨wr.heap.size, 4, none⟩ = some (.slice ka kl kcap))) (by kernel_rfl) HF5.out (fun hHeld => ?_)
          refine wpAnyH_take (i := 0) (v := ?_) rfl (by kernel_rfl) (by kernel_rfl) (by kernel_rfl) (fun _ _ _ h => h) (Or.inl ⟨by rfl, ?_⟩) (by assumption) ?_
          rotate_left
          · intro w hSw
            try dsimp only at hSw
            go_simp
            all_goals with_reducible rfl
          try simp only [lay_all]
          refine wpAnyH_take (i := 1) (v := ?_) rfl (by kernel_rfl) (by kernel_rfl) (by kernel_rfl) (fun _ _ _ h => h) (Or.inl ⟨by rfl, ?_⟩) (by assumption) ?_
          rotate_left
          · intro w hSw
            try dsimp only at hSw
            go_simp
            all_goals with_reducible rfl
          try simp only [lay_all]
          refine wpAnyH_take (i := 2) (v := ?_) rfl (by kernel_rfl) (by kernel_rfl) (by kernel_rfl) (fun _ _ _ h => h) (Or.inl ⟨by rfl, ?_⟩) (by assumption) ?_
          rotate_left
          · intro w hSw
            try dsimp only at hSw
            go_simp
            all_goals with_reducible rfl
          try simp only [lay_all]
          refine wpAnyH_take (i := 3) (v := ?_) rfl (by kernel_rfl) (by kernel_rfl) (by kernel_rfl) (fun _ _ _ h => h) (Or.inl ⟨by rfl, ?_⟩) (by assumption) ?_
          rotate_left
          · intro w hSw
            try dsimp only at hSw
            go_simp
            all_goals with_reducible rfl
          try simp only [lay_all]
          refine wpAnyH_take (i := 4) (v := ?_) rfl (by kernel_rfl) (by kernel_rfl) (by kernel_rfl) (fun _ _ _ h => h) (Or.inl ⟨by rfl, ?_⟩) (by assumption) ?_
          rotate_left
          · intro w hSw
            try dsimp only at hSw
            go_simp
            all_goals with_reducible rfl
          try simp only [lay_all]
          refine wpAnyH_ready (rs := [5]) (by kernel_rfl) (by simp) ?_
          refine AllReadyH.cons rfl (fun K hK => ?_) AllReadyH.nil
          go_simp
          refine (of_any c _).mono ?_
          rintro e w2 ⟨rfl, hs2, c2⟩
          have HB2 := hid hs2.bts
          have HD2 := hid ((HD.out.ch (Ch.refl (fun _ => False) _).drew (fun _ _ h => h)).ch c2 (fun _ _ h => h))
          have HC2 := hid (((Ch.refl (fun _ => False) wr).alloc (.cells #[.int .i64 k, .int .i64 a', .int .i64 n', .int .u8 (c.toNat : Int), .slice ka kl kcap] 33)).drew.trans c2)
          have HS2 := hid (keep5 hHeld c2 (fun _ _ h => h))
          have HG : Hid (∀ q, (Value.slice (some ⟨wr.heap.size + 1, 0, none⟩) 512 512).ownBlock = some q → ¬ M q) := hid (fun q hq hm => by
              obtain rfl : wr.heap.size + 1 = q := by simpa [Value.ownBlock] using hq
              have := HDo.out.lt _ hm
              omega)
          clear hs2 c2
          go_wp2_with fail
          refine hK.out _ _ ?_ (fun hHeld => ?_)
          · first | exact HS2.out | assumption
          clear hK K
          try simp only [lay_all]
          refine wpAnyH_ready (rs := [6]) (by kernel_rfl) (by simp) ?_
          refine AllReadyH.cons rfl (fun K hK => ?_) AllReadyH.nil
          go_simp
          refine (write_any a' _ 512 512 (ofB c) _ HD2.out HSt.out HWt.out (by simpa [secV] using HB2.out) (ofB_length _) HG.out).mono ?_
          rintro e w3 ⟨he, M4, F4, hD4, hm4, hf4, c4⟩
          rw [HE.out] at he
          subst he
          have HD4 := hid hD4
          have HM4 := hid hm4
          have HF4 := hid hf4
          have HC4 := hid c4
          have HS2 := hid (keep5 HS2.out c4 (fun q hq hm => by have := HDo.out.lt _ hm; omega))
          clear hD4 hm4 hf4 c4
          go_wp2_with fail
          refine hK.out _ _ ?_ (fun hHeld => ?_)
          · first | exact HS2.out | assumption
          clear hK K
          try simp only [lay_all]
          refine wpAnyH_ready (rs := [7]) (by kernel_rfl) (by simp) ?_
          refine AllReadyH.cons rfl (fun K hK => ?_) AllReadyH.nil
          go_simp
          refine (no1_any _ _).mono ?_
          rintro e w' ⟨rfl, rfl⟩
          go_wp2_with fail
          refine hK.out _ _ ?_ (fun hHeld => ?_)
          · first | exact HS2.out | assumption
          clear hK K
          try simp only [lay_all]
          refine wpAnyH_take (i := 8) (v := ?_) rfl (by kernel_rfl) (by kernel_rfl) (by kernel_rfl) (fun _ _ _ h => h) (Or.inl ⟨by rfl, ?_⟩) (by assumption) ?_
          rotate_left
          · intro w hSw
            try dsimp only at hSw
            go_simp
            all_goals with_reducible rfl
          try simp only [lay_all]
          refine wpAnyH_done (by kernel_rfl) ?_ _
          refine NoPanic.normal ?_
          go_wp2_with fail
          obtain ⟨g1, g2, g3, g4, g5⟩ := HMw.out.wrote HM.out HDo.out.ltF.2 HDb.out HMb.out HC.out HC2.out HC4.out HM4.out HF4.out HD4.out
          have HN := hid (show PcI w w3 p pb mb d2.L db Mb (j + 1) from ⟨_, M4, F4, W, f, HD4.out, HW2.out, g1.mono (by omega), g2, g3, g4, g5⟩)
          clear g1 g2 g3 g4 g5
          go_roundw
          case rel => exact ⟨j + 1, by go_num, by omega, HN⟩
          case measure => simp [intOf]; omega
      · obtain rfl : j = l2.length := by omega
        obtain ⟨dd, M, F, W, f, hD, hWr, hMw, hM, hDb, hMb, hC⟩ := HI.out
        have HWr := hid hWr
        have HDb := hid hDb
        have HMw := hid hMw
        have HC := hid hC
        have HK2 := hid (HK.out.ch hC (fun _ _ h => h))
        have HD := hid hD
        have hwt : dd.wait.length ≤ 1000000 := by have := hWr.many; rw [hWr.wait]; simp [ofW]; omega
        clear hD hWr hMw hM hDb hMb hC HI
        go_wp2_with fail
        refine (crash_any qa qcap kept _ HD.out hwt (by omega) HK2.out).mono ?_
        rintro e w5 ⟨po, Mo, rfl, hD5, c5, -⟩
        have HSa := hid hD5.sane
        have HSs := hid HD2s.out
        have HR : Hid (Rd w w5 pb po mb l2.length db (crashD dd kept) Mb Mo F W f) := hid ⟨HDb.out.ch c5 (fun _ _ h => h), hD5, HMw.out.ch c5 (fun _ h => h.elim) (fun _ h => .inl h), HC.out.trans c5⟩
        obtain ⟨dc, Hdc⟩ : ∃ dc, Hid (crashD dd kept = dc) := ⟨_, hid rfl⟩
        have HPt : Hid (∀ i : Nat, i < n → ∃ now was : List UInt8, readD dc (i : Int) = (0, now) ∧ readD db (i : Int) = (0, was) ∧ was.length = 512 ∧ now.length = 512 ∧ ∀ (k : Nat) (x : UInt8), now[k]? = some x → was[k]? = some x ∨ x ∈ wrote W i) := hid (by
          intro i hi
          have hi2 : i < d2.L.length := by rw [HPf.out.len]; exact hi
          obtain ⟨now, was, e1, e2, e3, e4, e5⟩ := pieces_at HWr.out HSs.out.secs kept HSa.out i hi2
          rw [Hdc.out] at e1
          exact ⟨now, was, e1, by rw [quiet_read Hdb.out.2.1 Hdb.out.2.2 i (by rw [HLb.out]; exact hi2), HLb.out, e2], e3, e4, e5⟩)
        have HWl : Hid (W.length ≤ 200) := hid (by have := HWr.out.many; omega)
        have HQb : Hid (db.wait.length ≤ 1000000) := hid (by rw [Hdb.out.2.1]; simp)
        have HQc : Hid (dc.wait.length ≤ 1000000) := hid (by rw [← Hdc.out]; show ([] : List (Nat × List UInt8)).length ≤ _; simp)
        rw [Hdc.out] at HR
        clear hD5 c5 HD HDb HMw HC HWr HSa HSs hwt
        go_wp2_with fail
        go_loopw [15] (fun i wr => ∃ k : Nat, i = .int .i64 (k : Int) ∧ k ≤ n ∧ k ≤ 20 ∧ Hid (Rd w wr pb po mb l2.length db dc Mb Mo F W f)) (fun i _ => 100 - (intOf i).toNat)
        case atStart => exact ⟨0, rfl, Nat.zero_le _, Nat.zero_le _, HR⟩
        case round =>
          obtain ⟨k, rfl, hk, hk20, HR⟩ := hrel
          by_cases hlt : k < n
          · by_cases h20 : k < 20
            · obtain ⟨now, was, e1, e2, e3, e4, e5⟩ := HPt.out k hlt
              have hr1 := read_any (k : Int) wr HR.out.1 HQb.out
              have hr2 := fun w2 (hc : Ch (fun _ => False) wr w2) => read_any (k : Int) w2 (HR.out.ch hc).2.1 HQc.out
              rw [e2] at hr1
              rw [e1] at hr2
              simp only [e3, e4] at hr1 hr2
              have H1 := hid hr1
              have H2 := hid hr2
              have H3 := hid e3
              have H4 := hid e4
              have H5 := hid e5
              clear hr1 hr2 e1 e2 e3 e4 e5
              go_wp2_with fail
              refine H1.out.mono ?_
              rintro e w6 ⟨v1, rfl, hb1, c6, -, ⟨x1, cap1, rfl⟩⟩
              obtain ⟨b1, off1, rfl⟩ := hb1.addr (by omega) H3.out
              have HB1 := hid hb1
              have HC6 := hid c6
              clear hb1 c6
              go_wp2_with fail
              refine (H2.out _ HC6.out).mono ?_
              rintro e w7 ⟨v2, rfl, hb2, c7, -, ⟨x2, cap2, rfl⟩⟩
              obtain ⟨b2, off2, rfl⟩ := hb2.addr (by omega) H4.out
              have HB2 := hid hb2
              have HB1b := hid (HB1.out.ch c7 (fun _ _ h => h))
              have HR7 := hid (HR.out.ch (HC6.out.trans c7))
              clear hb2 c7 HB1 HR HC6
              go_wp2_with (go_at_call 22; refine (no1_any _ _).mono ?_; rintro e w' ⟨rfl, rfl⟩)
              go_loopw [120] (fun i wr => ∃ m : Nat, i = .int .i64 (m : Int) ∧ m ≤ 512 ∧ Hid (Rd w wr pb po mb l2.length db dc Mb Mo F W f) ∧ Hid (Bts wr (.slice (some ⟨b1, off1, none⟩) 512 cap1) was ∧ Bts wr (.slice (some ⟨b2, off2, none⟩) 512 cap2) now)) (fun i _ => 1000 - (intOf i).toNat)
              case atStart => exact ⟨0, rfl, Nat.zero_le _, HR7, hid ⟨HB1b.out, HB2.out⟩⟩
              case round =>
                obtain ⟨m, rfl, hm, HR, HB⟩ := hrel
                by_cases hm5 : m < 512
                · obtain ⟨x, HX⟩ : ∃ x, Hid (now[m]? = some x) := ⟨now[m]'(by rw [H4.out]; exact hm5), hid (List.getElem?_eq_getElem _)⟩
                  obtain ⟨y, HY⟩ : ∃ y, Hid (was[m]? = some y) := ⟨was[m]'(by rw [H3.out]; exact hm5), hid (List.getElem?_eq_getElem _)⟩
                  have hcx := HB.out.2.cell HX.out
                  have hcy := HB.out.1.cell HY.out
                  have HL := H5.out m x HX.out
                  have hm0 : (0 : Int) ≤ (m : Int) := Int.natCast_nonneg _
                  have hm1 : (m : Int) < 512 := by omega
                  have hown := HR.out.2.2.1.own (k : Int)
                  obtain ⟨fa, fcap, hfk⟩ := owns_form hown
                  have hbt := bts_of_owns hown
                  rw [wroteI_nat] at hfk hbt
                  rw [hfk] at hbt
                  have hlk := (HR.out.ch (Ch.refl (fun _ => False) wr).drew).2.2.1.at_.lookup Try.underlying3 Try.underlying31 (Try.zero35 _) (k : Int) (int_wf (by omega) (by omega))
                  rw [hfk] at hlk
                  obtain ⟨G, HG⟩ : ∃ G, Hid (wrote W k = G) := ⟨_, hid rfl⟩
                  have hGl : G.length ≤ 200 := by
                    have h1 := wroteI_length W (k : Int)
                    rw [wroteI_nat, HG.out] at h1
                    have := HWl.out
                    omega
                  rw [HG.out] at hlk hbt HL
                  have HBt := hid (hbt.ch (Ch.refl (fun _ => False) wr).drew (fun _ _ h => h))
                  have HLL := hid HL
                  have HR2 := hid (HR.out.ch (Ch.refl (fun _ => False) wr).drew)
                  have HB2 := hid (And.intro (HB.out.1.ch (Ch.refl (fun _ => False) wr).drew (fun _ _ h => h)) (HB.out.2.ch (Ch.refl (fun _ => False) wr).drew (fun _ _ h => h)))
                  have hcx2 : wr.drew.cell? ⟨b2, off2 + m, none⟩ = some (.int .u8 (x.toNat : Int)) := hcx
                  clear hown hbt hfk HL HR HB
                  go_wp2_with fail
                  refine region_reads (by kernel_rfl) (by kernel_rfl) ?_
                  repeat still_step
                  refine wpStill_nil ?_
                  go_wp2_with fail
                  obtain ⟨wq, hwq⟩ : ∃ wq, wq = wr.drew := ⟨_, rfl⟩
                  rw [← hwq] at HR2 HB2 HBt hcx2 hlk ⊢
                  clear hwq hlk hcx hcy
                  go_loop [21, 136] (fun okv i => ∃ (q : Nat) (B : Bool), okv = .bool B ∧ i = .int .i64 (q : Int) ∧ q ≤ G.length ∧ Hid ((y = x → B = true) ∧ ∀ (r : Nat), r < q → G[r]? = some x → B = true)) (fun _ i => 1000 - (intOf i).toNat)
                  case atStart =>
                    refine ⟨0, _, rfl, rfl, Nat.zero_le _, hid ⟨fun e => by rw [e]; exact beq_self_eq_true _, fun r hr => by omega⟩⟩
                  case round =>
                    obtain ⟨q, B, rfl, rfl, hq, HQ⟩ := hrel
                    by_cases hqG : q < G.length
                    · obtain ⟨z, HZ⟩ : ∃ z, Hid (G[q]? = some z) := ⟨G[q]'hqG, hid (List.getElem?_eq_getElem _)⟩
                      obtain ⟨b3, off3, rfl⟩ := HBt.out.addr (by omega) rfl
                      have hcz := HBt.out.cell HZ.out
                      cases B with
                      | true =>
                        go_wp2_with fail
                        go_round
                        case rel => exact ⟨q + 1, true, rfl, by go_num, by omega, hid ⟨fun _ => rfl, fun _ _ _ => rfl⟩⟩
                        case measure => simp [intOf]; omega
                      | false =>
                        go_wp2_with fail
                        go_round
                        case rel =>
                          refine ⟨q + 1, _, rfl, by go_num, by omega, hid ⟨fun e => (by have := HQ.out.1 e; cases this), fun r hr hx => ?_⟩⟩
                          by_cases hrq : r < q
                          · have := HQ.out.2 r hrq hx; cases this
                          · obtain rfl : r = q := by omega
                            rw [HZ.out] at hx
                            cases hx
                            exact beq_self_eq_true _
                        case measure => simp [intOf]; omega
                    · obtain rfl : q = G.length := by omega
                      have hB : B = true := by
                        rcases HLL.out with e | e
                        · rw [HY.out] at e
                          cases e
                          exact HQ.out.1 rfl
                        · obtain ⟨r, hr, hrx⟩ := List.mem_iff_getElem.1 e
                          exact HQ.out.2 r hr (by rw [List.getElem?_eq_getElem hr, hrx])
                      subst hB
                      go_wp2_with fail
                      go_roundw
                      case rel => exact ⟨m + 1, by go_num, by omega, HR2, HB2⟩
                      case measure => simp [intOf]; omega
                · obtain rfl : m = 512 := by omega
                  go_wp2_with fail
                  go_roundw
                  case rel => exact ⟨k + 1, by go_num, by omega, by omega, HR⟩
                  case measure => simp [intOf]; omega
            · obtain rfl : k = 20 := by omega
              go_wp2_with fail
              refine (alive1 _).mono ?_
              rintro e w4 ⟨rfl, c4⟩
              have HC4 := hid (HR.out.2.2.2.trans c4)
              clear c4
              go_wp2_with fail
              go_ret
              exact ⟨rfl, HC4.out⟩
          · obtain rfl : k = n := by omega
            go_wp2_with fail
            refine (alive1 _).mono ?_
            rintro e w4 ⟨rfl, c4⟩
            have HC4 := hid (HR.out.2.2.2.trans c4)
            clear c4
            go_wp2_with fail
            go_ret
            exact ⟨rfl, HC4.out⟩
  · obtain ⟨E, HE⟩ : ∃ E, Hid ((flushD d).1 = E) := ⟨_, hid rfl⟩
    rw [HE.out] at HFl hE
    have hEb : ((E : Int) == 0) = false := by simpa using hE
    clear hE
    go_wp2_with fail
    refine HFl.out.mono ?_
    rintro e w2 ⟨rfl, -, c2⟩
    have HC2 := hid (HC1.out.then c2 (fun i hi h => by have := HM.out i h; omega))
    clear c2
    go_wp2_with (go_at_call 22; refine (no1_any _ _).mono ?_; rintro e w' ⟨rfl, rfl⟩)
    refine (alive1 _).mono ?_
    rintro e w3 ⟨rfl, c3⟩
    have HC3 := hid (HC2.out.trans c3)
    clear c3
    go_wp2_with fail
    go_ret
    exact ⟨rfl, HC3.out⟩

end Go.Proofs.Ytadhibemadgcoaa
