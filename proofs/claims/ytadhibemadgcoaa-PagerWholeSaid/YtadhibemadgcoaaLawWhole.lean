/- PagerWhole answers true. Conditions: the arguments are slices of strings, of ints and of keeps. -/
import Derived.Test.YtadhibemadgcoaaPgWb
import Derived.Test.YtadhibemadgcoaaDiskO
namespace Go.Proofs.Ytadhibemadgcoaa
open Go.RowKit

theorem whole_num (n : Int) : ∃ N : Nat, Int.tmod (Int.tmod n 41 + 41) 41 = (N : Int) ∧ N ≤ 40 ∧ IntKind.i64.wrap (Int.tmod n 41) = Int.tmod n 41 ∧ IntKind.i64.wrap (Int.tmod n 41 + 41) = Int.tmod n 41 + 41 := by
  have h1 := Int.tmod_lt_of_pos n (show (0 : Int) < 41 by omega)
  have h2 : -41 < Int.tmod n 41 := by
    have := Int.tmod_lt_of_pos (-n) (show (0 : Int) < 41 by omega)
    rw [Int.neg_tmod] at this
    omega
  have h3 := Int.tmod_nonneg (a := Int.tmod n 41 + 41) 41 (by omega)
  have h4 := Int.tmod_lt_of_pos (Int.tmod n 41 + 41) (show (0 : Int) < 41 by omega)
  exact ⟨(Int.tmod (Int.tmod n 41 + 41) 41).toNat, by omega, by omega, wrap_id (by omega) (by omega), wrap_id (by omega) (by omega)⟩

set_option maxRecDepth 20000 in
set_option maxHeartbeats 8000000 in
theorem whole_any (la : Option Addr) (lcap : Nat) (l : List ByteArray) (ma : Option Addr) (mcap : Nat) (more : List ByteArray) (ga : Option Addr) (gcap : Nat) (drops : List Int) (fz : Int) (ka : Option Addr) (kcap : Nat) (kept : List (Int × Int)) (w : World)
    (hl : Strs w (.slice la l.length lcap) l) (hm : Strs w (.slice ma more.length mcap) more) (hg : Ints w (.slice ga drops.length gcap) drops) (hk : Kps w (.slice ka kept.length kcap) kept) :
    Calls Try.prog 17 #[.slice la l.length lcap, .slice ma more.length mcap, .slice ga drops.length gcap, .int .i64 fz, .slice ka kept.length kcap] w fun e w' => e = .returned (.bool true) ∧ Ch (fun _ => False) w w' := by
  have HLl := hid hl
  have HMo := hid hm
  have HGo := hid hg
  have HKo := hid hk
  clear hl hm hg hk
  obtain ⟨N0, hN0, hN40, hn1, hn2⟩ := whole_num fz
  go_enter Try.func17, Try.ntmps17
  go_wp2_with fail
  refine (begun_any 30 la lcap l w (by omega) (by omega) HLl.out).mono ?_
  rintro e w1 ⟨dp, pp, Q, ha, hcap, p0, has, rfl, hz, hb, hh, -⟩
  have HZ := hid hz
  have HB := hid hb
  have HH := hid hh
  have hm12 := hb.len
  obtain ⟨m, HM⟩ : ∃ m, Hid (has.length = m) := ⟨_, hid rfl⟩
  rw [HM.out] at hm12 HH
  clear hz hb hh
  rw [HM.out]
  go_wp2_with fail
  refine (alive3 _).mono ?_
  rintro e w2 ⟨rfl, c2⟩
  have hz2 := HZ.out.ch c2 (fun _ _ h => h) (fun _ _ h => h)
  have HH2 := hid (HH.out.ch c2 (fun _ h _ => h.elim) (Fresh.refl _ _))
  have HB2 := hid hz2.base
  have HFu := hid (fuse_y (N0 : Int) w2 hz2 (by omega))
  have HW2 := hid (HB.out.whI (N0 : Int))
  clear c2 hz2
  by_cases hkl : 200 < kept.length
  · go_wp2_with fail
    go_ret
    exact ⟨rfl, HB2.out⟩
  by_cases hmo : 12 < more.length
  · go_wp2_with fail
    go_ret
    exact ⟨rfl, HB2.out⟩
  by_cases hdr : 20 < drops.length
  · go_wp2_with fail
    go_ret
    exact ⟨rfl, HB2.out⟩
  go_wp2_with fail
  refine HFu.out.mono ?_
  rintro e w3 ⟨rfl, Q3, hz3, hf3, hc3⟩
  have hh3 := HH2.out.ch hc3 (fun _ h _ => h) hf3
  have cA := (Ch.refl (fun _ => False) w3).alloc (.cells #[] 96)
  have hzA := hz3.ch cA (fun _ _ h => h) (fun _ _ h => h)
  have hhA := hh3.ch cA (fun _ h _ => h.elim) (Fresh.refl _ _)
  obtain ⟨na, nc, w4, hrun, hn4, hc4⟩ := hhA.copy w3.heap.size (heap_new _) (by have := hz3.base.size; omega) (by omega) (QH Q3 (.slice ha m hcap)) (fun k hk => by
    rcases hk with hk | hk
    · exact ⟨(hzA.lt k hk).2, by have := (hz3.lt k hk).2; omega⟩
    · exact ⟨(hhA.1.lt k hk).2, by have := (hh3.1.lt k hk).2; omega⟩)
  have hnb : ∀ k, (Value.slice ha m hcap).ownBlock = some k → k ≠ w3.heap.size := fun k hk => by have := (hh3.1.lt k hk).2; omega
  have HZ4 := hid (hzA.ch hc4 (fun k hQ hk => by have := (hz3.lt k hQ).2; omega) (fun k hlt hk => by have := hz3.base.size; omega))
  have HH4 := hid (hhA.off hc4 hnb)
  have HN4 := hid hn4
  have HRun := hid hrun
  have HW4 := HW2
  clear hz3 hf3 hc3 hh3 cA hzA hhA hrun hn4 hc4 hnb HW2
  go_wp2_with (at_builtin; refine wpList_append_run rfl (.tmp 56) (.tmp 57) 91 91 rfl _ _ HRun.out ?_)
  go_loopw [14, 61] (fun nv i wr => ∃ j k a c, i = .int .i64 ((j : Nat) : Int) ∧ j ≤ drops.length ∧ nv = .slice a k c ∧ k ≤ 12 ∧ Hid (∃ p Q now, PZ w wr pp dp p Q ∧ WhI p 2001 has now ∧ HasAt wr w.heap.size Q (.slice ha m hcap) m has ∧ HasAt wr w.heap.size (QH Q (.slice ha m hcap)) (.slice a k c) k now)) (fun _ i _ => 100 - (intOf i).toNat)
  case atStart => exact ⟨0, m, na, nc, rfl, Nat.zero_le _, rfl, hm12, hid ⟨_, _, _, HZ4.out, HW4.out, HH4.out, HN4.out⟩⟩
  case round =>
    clear HZ4 HH4 HN4 HW4 HFu HRun
    obtain ⟨j, k, na, nc, rfl, hj, rfl, hk12, HI⟩ := hrel
    obtain ⟨p, Qp, now, hz, hab, hh, hnw⟩ := HI.out
    have HZ := hid hz
    have HA := hid hab
    have HH := hid hh
    have HN := hid hnw
    have HC := hid hz.base
    clear hz hab hh hnw
    by_cases hlt : j < drops.length
    · obtain ⟨x, HX⟩ : ∃ x, Hid (drops[j]? = some x) := ⟨drops[j]'hlt, hid (List.getElem?_eq_getElem _)⟩
      obtain ⟨b, off, rfl, hcell, hblt⟩ := (HGo.out.ch HC.out (fun _ _ h => h)).get HX.out
      obtain ⟨er, p', hdr, hwd⟩ := HA.out.drop x
      have hdz := drop_z x wr HZ.out
      rw [hdr] at hdz
      have HDz := hid hdz
      by_cases he : er = 0
      · subst he
        rw [if_pos rfl] at hwd
        have HWd := hid hwd
        clear hdz hdr hwd
        go_wp2_with fail
        refine HDz.out.mono ?_
        rintro e w6 ⟨rfl, Q6, hz6, hf6, hc6⟩
        have HZ6 := hid hz6
        have HH6 := hid (HH.out.ch hc6 (fun _ h _ => h) hf6)
        have HN6 := hid (HN.out.ch hc6 (fun _ h _ => .inl h) (QH.fresh _ hf6))
        have HLt6 := hid hz6.lt
        have HBs6 := hid hz6.base.size
        clear hz6 hf6 hc6
        go_wp2_with (go_at_call 55; refine (no3_any _ _).mono ?_; rintro e w' ⟨rfl, rfl⟩)
        refine (without_any na nc k now x w6 HN6.out (by omega)).mono ?_
        rintro e w7 ⟨a7, c7, rfl, hn7, hc7⟩
        have hle := wo_le now x
        have hkn : now.length = k := HN6.out.2.1
        obtain ⟨k7, HK7⟩ : ∃ k7, Hid ((wo now x).length = k7) := ⟨_, hid rfl⟩
        rw [HK7.out] at hn7 hle ⊢
        have HZ7 := hid (HZ6.out.ch hc7 (fun _ _ h => h) (fun _ _ h => h))
        have HH7 := hid (HH6.out.ch hc7 (fun _ h _ => h.elim) (Fresh.refl _ _))
        have HN7 := hid (hn7.base (Q' := QH Q6 (.slice ha m hcap)) HBs6.out (fun k hk => by
          rcases hk with hk | hk
          · exact (HLt6.out k hk).2
          · exact (HH6.out.1.lt k hk).2))
        have HKn := hid hkn
        clear hn7 hc7 hkn
        go_wp2_with fail
        go_roundw
        case rel => exact ⟨j + 1, k7, a7, c7, by go_num, by omega, rfl, by have := HKn.out; omega, hid ⟨p', Q6, _, HZ7.out, HWd.out, HH7.out, HN7.out⟩⟩
        case measure => simp [intOf]; omega
      · rw [if_neg he] at hwd
        have heb : ((er : Int) == 0) = false := by rw [beq_eq_false_iff_ne]; omega
        have HWd := hid hwd
        clear hdz hdr hwd he
        go_wp2_with fail
        refine HDz.out.mono ?_
        rintro e w6 ⟨rfl, Q6, hz6, hf6, hc6⟩
        have HZ6 := hid hz6
        have HH6 := hid (HH.out.ch hc6 (fun _ h _ => h) hf6)
        have HN6 := hid (HN.out.ch hc6 (fun _ h _ => .inl h) (QH.fresh _ hf6))
        clear hz6 hf6 hc6
        go_wp2_with (go_at_call 55; refine (no3_any _ _).mono ?_; rintro e w' ⟨rfl, rfl⟩)
        go_roundw
        case rel => exact ⟨j + 1, k, na, nc, by go_num, by omega, rfl, by omega, hid ⟨p', Q6, _, HZ6.out, HWd.out, HH6.out, HN6.out⟩⟩
        case measure => simp [intOf]; omega
    · go_wp2_with fail
      go_loopw [14, 76] (fun nv i wr => ∃ j k a c, i = .int .i64 ((j : Nat) : Int) ∧ j ≤ more.length ∧ nv = .slice a k c ∧ k ≤ 12 + j ∧ Hid (∃ p Q now, PZ w wr pp dp p Q ∧ WhI p (2001 + j) has now ∧ HasAt wr w.heap.size Q (.slice ha m hcap) m has ∧ HasAt wr w.heap.size (QH Q (.slice ha m hcap)) (.slice a k c) k now)) (fun _ i _ => 100 - (intOf i).toNat)
      case atStart => exact ⟨0, k, na, nc, rfl, Nat.zero_le _, rfl, hk12, hid ⟨_, _, _, HZ.out, HA.out, HH.out, HN.out⟩⟩
      case round =>
        clear HZ HA HH HC HI HN hk12
        obtain ⟨j, k, na, nc, rfl, hj, rfl, hk12, HI⟩ := hrel
        obtain ⟨p, Qp, now, hz, hab, hh, hnw⟩ := HI.out
        have HZ := hid hz
        have HA := hid hab
        have HH := hid hh
        have HN := hid hnw
        have HC := hid hz.base
        clear hz hab hh hnw
        by_cases hlt : j < more.length
        · obtain ⟨x, HX⟩ : ∃ x, Hid (more[j]? = some x) := ⟨more[j]'hlt, hid (List.getElem?_eq_getElem _)⟩
          obtain ⟨b, off, rfl, hcell, hblt⟩ := (HMo.out.ch HC.out (fun _ _ h => h)).get HX.out
          obtain ⟨N, hN⟩ : ∃ N : Nat, (if 492 < (x.size : Int) then 492 else (x.size : Int)) = (N : Int) := ⟨min x.size 492, by split <;> omega⟩
          have hNx : (N : Int) ≤ (x.size : Int) := by split at hN <;> omega
          have hcs : (x.extract 0 N).size ≤ 492 := by rw [ByteArray.size_extract]; split at hN <;> omega
          obtain ⟨an, er, p', hpt, hwd⟩ := HA.out.put j (by omega) (x.extract 0 N) hcs
          have hpz := put_y (j : Int) (x.extract 0 N) wr HZ.out (by have := HA.out.pl.steps; omega) (by have := HA.out.pl.wait; omega)
          rw [hpt] at hpz
          have HPz := hid hpz
          by_cases he : er = 0
          · subst he
            rw [if_pos rfl] at hwd
            have HWd := hid hwd
            clear hpt hpz hwd hcs
            go_wp2_with fail
            refine HPz.out.mono ?_
            rintro e w6 ⟨rfl, Q6, hz6, hf6, hc6⟩
            have hh6 := HH.out.ch hc6 (fun _ h _ => h) hf6
            have hn6 := HN.out.ch hc6 (fun _ h _ => .inl h) (QH.fresh _ hf6)
            have hgn := heap_new2 w6 (.int .i64 (an : Int)) (.string (x.extract 0 N)) 96
            have cA := (Ch.refl (fun _ => False) w6).alloc (.cells #[.int .i64 (an : Int), .string (x.extract 0 N)] 96)
            have hzA := hz6.ch cA (fun _ _ h => h) (fun _ _ h => h)
            have hhA := hh6.ch cA (fun _ h _ => h.elim) (Fresh.refl _ _)
            have hnA := hn6.ch cA (fun _ h _ => h.elim) (Fresh.refl _ _)
            obtain ⟨v', w8, hrun, hn8, hc8⟩ := hnA.snoc (fun q hq => by
              rcases hq with hq | hq
              · exact (hzA.lt q hq).2
              · exact (hhA.1.lt q hq).2) (by omega) (by have := hzA.base.size; omega) (an, x.extract 0 N) w6.heap.size hgn.1 hgn.2 91 1
            have hnb := hnA.2.2
            have HZ8 := hid (hzA.ch hc8 (fun q hQ hk => hnb q hk (.inl hQ)) (fun q hlt hk => by have := (hnA.1.lt q hk).1; omega))
            have HH8 := hid (hhA.off hc8 (fun q hq hs => hnb q hs (.inr hq)))
            obtain ⟨g, gcap, rfl⟩ := hn8.form
            have HRun := hid hrun
            have HN8 := hid hn8
            clear hz6 hf6 hc6 hh6 hn6 hgn cA hzA hhA hnA hrun hn8 hc8 hnb
            go_wp2_with (first | (go_at_call 55; refine (no3_any _ _).mono ?_; rintro e w' ⟨rfl, rfl⟩) | (at_builtin; refine wpList_append_run rfl (.tmp 96) (.tmp 100) 91 91 rfl _ _ HRun.out ?_))
            go_roundw
            case rel => exact ⟨j + 1, k + 1, g, gcap, by go_num, by omega, by go_num, by omega, hid ⟨p', Q6, _, HZ8.out, HWd.out, HH8.out, HN8.out⟩⟩
            case measure => simp [intOf]; omega
          · rw [if_neg he] at hwd
            have heb : ((er : Int) == 0) = false := by rw [beq_eq_false_iff_ne]; omega
            have HWd := hid hwd
            clear hpt hpz hwd he hcs
            go_wp2_with fail
            refine HPz.out.mono ?_
            rintro e w6 ⟨rfl, Q6, hz6, hf6, hc6⟩
            have HZ6 := hid hz6
            have HH6 := hid (HH.out.ch hc6 (fun _ h _ => h) hf6)
            have HN6 := hid (HN.out.ch hc6 (fun _ h _ => .inl h) (QH.fresh _ hf6))
            clear hz6 hf6 hc6
            go_wp2_with (go_at_call 55; refine (no3_any _ _).mono ?_; rintro e w' ⟨rfl, rfl⟩)
            go_roundw
            case rel => exact ⟨j + 1, k, na, nc, by go_num, by omega, rfl, by omega, hid ⟨p', Q6, _, HZ6.out, HWd.out, HH6.out, HN6.out⟩⟩
            case measure => simp [intOf]; omega
        · obtain ⟨er, p', hcp, hpl, hon⟩ := HA.out.commit kept
          have hcz := commit_y ⟨#[110, 101, 119]⟩ wr HZ.out (by have := HA.out.pl.steps; omega) (by have := HA.out.pl.wait; omega)
          rw [show (⟨#[110, 101, 119]⟩ : ByteArray).data.toList = [110, 101, 119] from rfl, hcp] at hcz
          have HCz := hid hcz
          have HPl := hid hpl
          have HOn := hid hon
          clear hcp hcz hpl hon
          go_wp2_with fail
          refine HCz.out.mono ?_
          rintro e w7 ⟨rfl, Q7, hz7, hf7, hc7⟩
          have HZ7 := hid hz7
          have HB7 := hid hz7.base
          have HH7 := hid (HH.out.ch hc7 (fun _ h _ => h) hf7)
          have HN7 := hid (HN.out.ch hc7 (fun _ h _ => .inl h) (QH.fresh _ hf7))
          have HCr := hid (crash_y ka kept.length kcap kept w7 rfl hz7 (by have := HPl.out.wait; omega) (by omega) (HKo.out.ch2 HB7.out (fun _ _ h => h)))
          clear hz7 hf7 hc7
          go_wp2_with fail
          refine HCr.out.mono ?_
          rintro e w8 ⟨dq, rfl, hdz, hc8⟩
          have hHl : Hl (crashD p'.d kept) 30 0 := ⟨(HPl.out.crash kept).len, by show (-1 : Int) < 0; omega, rfl, hdz.sane, Nat.le_refl _, Nat.le_refl _⟩
          have HDz := hid hdz
          have HHl := hid hHl
          clear hdz hc8 hHl
          obtain ⟨o, HO⟩ : ∃ o, Hid (crashD p'.d kept = o) := ⟨_, hid rfl⟩
          rw [HO.out] at HDz HHl HOn
          rcases HOn.out with ⟨hne, hold⟩ | hnew
          · obtain ⟨ho1, ho2⟩ := hold.open_ HHl.out
            have hop := open_z w8 HDz.out HHl.out (by omega) ho1
            rw [ho2] at hop
            have HOp := hid hop
            have HOld := hid hold
            have heb : ((er : Int) != 0) = true := by rw [bne_iff_ne]; omega
            clear hop hold ho1 ho2 hne
            go_wp2_with fail
            refine HOp.out.mono ?_
            rintro e w9 ⟨pq, Qq, rfl, hzq⟩
            have HZq := hid hzq
            have HHq := hid (HH7.out.ch hzq.base (fun _ h _ => h.elim) (fun k hk => .inr (hzq.lt k hk).1))
            have HGn := hid (gen_z w9 hzq)
            have HRt := hid (root_z w9 hzq)
            have HHo := hid (holds_any w9 hzq HHq.out (HoI.start HHl.out HOld.out.2.2) (by omega) (by omega))
            clear hzq
            go_wp2_with (first | (go_at_call 55; refine (no3_any _ _).mono ?_; rintro e w' ⟨rfl, rfl⟩) | (go_at_call 62; refine HGn.out.mono ?_; rintro e w' ⟨rfl, rfl⟩) | (go_at_call 63; refine HRt.out.mono ?_; rintro e w' ⟨rfl, rfl⟩))
            refine HHo.out.mono ?_
            rintro e w10 ⟨rfl, hc10⟩
            have HC10 := hid (HB7.out.trans hc10)
            clear hc10
            go_wp2_with fail
            go_ret
            exact ⟨rfl, HC10.out⟩
          · obtain ⟨ho1, ho2⟩ := hnew.open_ HHl.out
            have hop := open_z w8 HDz.out HHl.out (by omega) ho1
            rw [ho2] at hop
            have HOp := hid hop
            have HNew := hid hnew
            clear hop hnew ho1 ho2
            go_wp2_with fail
            refine HOp.out.mono ?_
            rintro e w9 ⟨pq, Qq, rfl, hzq⟩
            have HZq := hid hzq
            have HNq := hid (HN7.out.ch hzq.base (fun _ h _ => h.elim) (fun k hk => .inr (hzq.lt k hk).1))
            have HGn := hid (gen_z w9 hzq)
            have HRt := hid (root_z w9 hzq)
            have HHo := hid (holds_any w9 hzq HNq.out (HoI.start HHl.out HNew.out.2.2) (by omega) (by omega))
            clear hzq
            go_wp2_with (first | (go_at_call 55; refine (no3_any _ _).mono ?_; rintro e w' ⟨rfl, rfl⟩) | (go_at_call 62; refine HGn.out.mono ?_; rintro e w' ⟨rfl, rfl⟩) | (go_at_call 63; refine HRt.out.mono ?_; rintro e w' ⟨rfl, rfl⟩))
            refine HHo.out.mono ?_
            rintro e w10 ⟨rfl, hc10⟩
            have HC10 := hid (HB7.out.trans hc10)
            clear hc10
            go_wp2_with fail
            go_ret
            exact ⟨rfl, HC10.out⟩

end Go.Proofs.Ytadhibemadgcoaa
