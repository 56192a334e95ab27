/- DiskAll answers true. Conditions: the second argument is a slice of calls. -/
import Derived.Test.YtadhibemadgcoaaDiskP
namespace Go.Proofs.Ytadhibemadgcoaa
open Go.RowKit

theorem Try.info62 : (Try.prog.info? 62).map (fun i => (i.zero, i.size, i.bytes)) = some (some (.agg #[.int .i64 0, .int .i64 0]), 2, 16) := by kernel_rfl

/-- append to a slice in memory from a block on. -/
theorem run_append_mine {P : Program} (w : World) (base : Nat) (t ty e : TypeId) (z : Value) (size bytes : Nat) (ht : P.underlying t = some (.slice e)) (hinfo : (P.info? e).map (fun i => (i.zero, i.size, i.bytes)) = some (some z, size, bytes))
    (hzs : z.cells.size = size) (hsz : 0 < size) (v : Value) (n : Nat) (xs : List Value) (hown : w.ownsRow base e size v n xs)
    (a : Addr) (m c : Nat) (news : List Value) (hl : news.length = m * size) (hnews : ∀ j u, news[j]? = some u → w.cell? (a.add j) = some u) (h1 : ∀ u ∈ news, u.oneCell' = true)
    (h63 : n + m ≤ maxLen) (hbytes : (n + m) * bytes ≤ 140737488355328) (hbase : base ≤ w.heap.size) :
    ∃ v' w', (Builtin.append_ #[t, t] ty #[v, .slice (some a) m c]).run P w = .ok v' w' ∧ w'.ownsRow base e size v' (n + m) (xs ++ news) ∧ Ch (fun k => v.ownBlock = some k) w w' := by
  obtain ⟨i, hi, hzz⟩ := Option.map_eq_some_iff.1 hinfo
  simp only [Prod.mk.injEq] at hzz
  obtain ⟨hz, hs, hb⟩ := hzz
  obtain ⟨v', w', r1, r2, r3, _⟩ := run_append_own (P := P) w base t ty e i z size bytes ht hi hz hs hb hzs hsz v n xs hown a m c news hl hnews h1 h63 hbytes hbase
  exact ⟨v', w', r1, r2, (Ch.refl _ w).grown r3 (fun k hk _ => hk)⟩

/-- The cells of keeps. -/
def keepCells (l : List (Int × Int)) : List Value := l.flatMap fun x => [.int .i64 x.1, .int .i64 x.2]
theorem keepCells_length (l : List (Int × Int)) : (keepCells l).length = l.length * 2 := by
  induction l with
  | nil => rfl
  | cons x l ih => show (_ :: _ :: keepCells l).length = _; simp [ih]; omega
theorem keepCells_snoc (l : List (Int × Int)) (x : Int × Int) : keepCells (l ++ [x]) = keepCells l ++ [.int .i64 x.1, .int .i64 x.2] := by simp [keepCells]
theorem keepCells_get (l : List (Int × Int)) : ∀ (j : Nat) (x : Int × Int), l[j]? = some x → (keepCells l)[j * 2]? = some (.int .i64 x.1) ∧ (keepCells l)[j * 2 + 1]? = some (.int .i64 x.2) := by
  induction l with
  | nil => intro j x h; simp at h
  | cons y l ih =>
    intro j x h
    have e : keepCells (y :: l) = .int .i64 y.1 :: .int .i64 y.2 :: keepCells l := by simp [keepCells]
    rw [e]
    cases j with
    | zero => simp at h; subst h; exact ⟨rfl, rfl⟩
    | succ j =>
      have := ih j x (by simpa using h)
      rw [show (j + 1) * 2 = j * 2 + 1 + 1 by omega]
      exact this
theorem kps_of_owns {w : World} {base : Nat} {v : Value} {n : Nat} {l : List (Int × Int)} (h : w.ownsRow base 62 2 v n (keepCells l)) (hn : l.length = n) : Kps w v l := by
  subst hn
  rcases h.2 with ⟨rfl, h0⟩ | ⟨g, cap, cur, rfl, hb, hg, hc, _, hs, ht⟩
  · exact .inl ⟨_, _, rfl, List.eq_nil_of_length_eq_zero h0⟩
  · refine .inr ⟨g, 0, cap, cur, 62, (0, 0), rfl, hg, fun j x hx => ?_⟩
    have hj := (List.getElem?_eq_some_iff.1 hx).1
    have := keepCells_get l j x hx
    rw [← ht, List.getElem?_take, List.getElem?_take, if_pos (by omega), if_pos (by omega)] at this
    rw [Nat.zero_add]
    simpa using this
theorem owns_form {w : World} {base e size n : Nat} {v : Value} {xs : List Value} (h : w.ownsRow base e size v n xs) : ∃ a cap, v = .slice a n cap := by
  rcases h.2 with ⟨rfl, h0⟩ | ⟨g, cap, cur, rfl, _⟩
  · exact ⟨none, 0, by rw [h0]⟩
  · exact ⟨_, cap, rfl⟩
theorem crash_len {p : Nat} {d : Dk} {M F : Nat → Prop} (a : Option Addr) (m cap : Nat) (kept : List (Int × Int)) (w : World) (hm : kept.length = m) (h : DiskAt w p d M F) (hwt : d.wait.length ≤ 1000000) (hkl : m ≤ 1000000) (hkv : Kps w (.slice a m cap) kept) :
    Calls Try.prog 24 #[.pointer (some ⟨p, 0, none⟩), .slice a m cap] w fun e w' => ∃ p' M', e = .returned (.pointer (some ⟨p', 0, none⟩)) ∧
      DiskAt w' p' (crashD d kept) M' M' ∧ Ch (fun _ => False) w w' ∧ (∀ k, M' k → w.heap.size ≤ k) := by
  subst hm
  exact crash_any a cap kept w h hwt hkl hkv

set_option maxRecDepth 20000 in
set_option maxHeartbeats 2000000 in
theorem all_any (n : Int) (a : Option Addr) (cap : Nat) (l : List AcV) (w : World) (h : Acs w (.slice a l.length cap) l) :
    Calls Try.prog 9 #[.int .i64 n, .slice a l.length cap] w fun e w' => e = .returned (.bool true) ∧ Ch (fun _ => False) w w' := by
  have HA := hid h
  clear h
  go_enter Try.func9, Try.ntmps9
  go_wp2_with fail
  refine (play_any n a cap l _ HA.out).mono ?_
  rintro e w1 ⟨c1, he⟩
  have HC1 := hid c1
  clear c1
  rcases he with rfl | ⟨p, d, M, F, rfl, hn1, hn2, hD, hPl, hM⟩
  · go_wp2_with fail
    refine (alive1 _).mono ?_
    rintro e w2 ⟨rfl, c2⟩
    have HC2 := hid (HC1.out.trans c2)
    clear c2
    go_wp2_with fail
    go_ret
    exact ⟨rfl, HC2.out⟩
  obtain ⟨n, rfl⟩ : ∃ k : Nat, n = (k : Int) := ⟨n.toNat, by omega⟩
  rw [Int.toNat_natCast] at hPl
  have HD := hid hD
  have HP := hid hPl
  obtain ⟨W, HW⟩ : ∃ W, Hid (d.wait.length = W) := ⟨_, hid rfl⟩
  have hW80 : W ≤ 80 := by have := hPl.wait; rw [HW.out] at this; exact this
  have HWt := hid (fun (w2 : World) (hc : Ch (fun _ => False) w1 w2) => waiting_any w2 (hD.ch hc (fun _ _ h => h)))
  rw [HW.out] at HWt
  clear hD hPl hM HA
  go_wp2_with fail
  go_loopw [6, 7] (fun kv i wr => ∃ j : Nat, i = .int .i64 (j : Int) ∧ j ≤ W ∧ (∃ a cap, kv = .slice a j cap) ∧ Hid (wr.ownsRow w1.heap.size 62 2 kv j (keepCells (fullK j))) ∧ Hid (Ch (fun _ => False) w1 wr)) (fun _ i _ => 100 - (intOf i).toNat)
  case atStart => exact ⟨0, rfl, Nat.zero_le _, ⟨none, 0, rfl⟩, hid ⟨rfl, .inl ⟨rfl, rfl⟩⟩, hid (Ch.refl _ _)⟩
  case round =>
    obtain ⟨j, rfl, hj, ⟨ka, kcap, rfl⟩, HO, HC⟩ := hrel
    by_cases hlt : j < W
    · obtain ⟨v', w3, hrun, hown, hch⟩ := run_append_mine (P := Try.prog) (wr.alloc (.cells #[.int .i64 (j : Int), .int .i64 1000] 62)) w1.heap.size 23 23 62 (.agg #[.int .i64 0, .int .i64 0]) 2 16 Try.underlying23 Try.info62 rfl (by omega) (.slice ka j kcap) j (keepCells (fullK j)) (HO.out.alloc _)
        ⟨wr.heap.size, 0, none⟩ 1 1 [.int .i64 (j : Int), .int .i64 1000] rfl (by
          intro i u hu
          rw [add_plain, cell_blk (heap_new _), Nat.zero_add]
          simpa using hu) (by intro u hu; simp at hu; rcases hu with rfl | rfl <;> rfl) (by unfold maxLen; omega) (by omega) (by simp; have := HC.out.size; omega)
      have hnb : ∀ k, (Value.slice ka j kcap).ownBlock = some k → ¬ k < w1.heap.size := fun k hk => by have := (HO.out.lt k hk).1; omega
      have HC3 := hid ((HC.out.alloc _).then hch (fun i hi e => absurd hi (hnb i e)))
      obtain ⟨g, gcap, rfl⟩ := owns_form hown
      have HO3 : Hid (w3.ownsRow w1.heap.size 62 2 (.slice g (j + 1) gcap) (j + 1) (keepCells (fullK (j + 1)))) := hid (by rw [fullK_succ, keepCells_snoc]; exact hown)
      have HR := hid hrun
      clear hrun hown hch hnb
      go_wp2_with (first | (go_at_call 40; refine (HWt.out _ HC.out).mono ?_; rintro e w' ⟨rfl, rfl⟩) | (at_builtin; refine wpList_append_run rfl (.tmp 30) (.tmp 33) 23 23 rfl _ _ HR.out ?_))
      go_roundw
      case rel => exact ⟨j + 1, by go_num, by omega, ⟨g, gcap, by go_num⟩, HO3, HC3⟩
      case measure => simp [intOf]; omega
    · obtain rfl : j = W := by omega
      go_wp2_with (go_at_call 40; refine (HWt.out _ HC.out).mono ?_; rintro e w' ⟨rfl, rfl⟩)
      refine (crash_len ka j kcap (fullK j) wr (fullK_length j) (HD.out.ch HC.out (fun _ _ h => h)) (by rw [HW.out]; omega) (by omega) (kps_of_owns HO.out (fullK_length j))).mono ?_
      rintro e w3 ⟨p3, M3, rfl, hD3, c3, -⟩
      have HD3 := hid hD3
      have HDd := hid ((HD.out.ch HC.out (fun _ _ h => h)).ch c3 (fun _ _ h => h))
      have HC3 := hid ((HC1.out.trans HC.out).trans c3)
      have HS := hid HD.out.sane
      have HRd : Hid (∀ i : Nat, i < n → (readD (crashD d (fullK j)) (i : Int)).1 = 0 ∧ ((readD d (i : Int)).1 = 0 → (readD (crashD d (fullK j)) (i : Int)).2 = (readD d (i : Int)).2)) := hid (by
        rw [← HW.out]
        exact fun i hi => all_read HS.out i (by rw [HP.out.len]; exact hi))
      clear hD3 c3
      go_wp2_with fail
      go_loopw [9] (fun i wr => ∃ k : Nat, i = .int .i64 (k : Int) ∧ k ≤ n ∧ k ≤ 20 ∧ Hid (DiskAt wr p d M F) ∧ Hid (DiskAt wr p3 (crashD d (fullK j)) M3 M3) ∧ Hid (Ch (fun _ => False) w wr)) (fun i _ => 100 - (intOf i).toNat)
      case atStart => exact ⟨0, rfl, Nat.zero_le _, Nat.zero_le _, HDd, HD3, HC3⟩
      case round =>
        obtain ⟨k, rfl, hk, hk20, HA, HB, HC⟩ := hrel
        by_cases hlt : k < n
        · by_cases h20 : k < 20
          · have hr1 := read_any (k : Int) wr HA.out (by rw [HW.out]; omega)
            have hr2 := fun w2 (hc : Ch (fun _ => False) wr w2) => read_any (k : Int) w2 (HB.out.ch hc (fun _ _ h => h)) (by show ([] : List (Nat × List UInt8)).length ≤ _; simp)
            obtain ⟨q1, q2⟩ := HRd.out k hlt
            rw [q1] at hr2
            by_cases hg : (readD d (k : Int)).1 = 0
            · rw [q2 hg] at hr2
              rw [hg] at hr1
              obtain ⟨R, HR⟩ : ∃ R, Hid ((readD d (k : Int)).2 = R) := ⟨_, hid rfl⟩
              rw [HR.out] at hr1 hr2
              have H1 := hid hr1
              have H2 := hid hr2
              clear hr1 hr2 hg q1 q2
              go_wp2_with fail
              refine H1.out.mono ?_
              rintro e w4 ⟨v1, rfl, hb1, c4, -, ⟨x1, cap1, rfl⟩⟩
              have HB1 := hid hb1
              have HC4 := hid c4
              clear hb1 c4
              go_wp2_with fail
              refine (H2.out _ HC4.out).mono ?_
              rintro e w5 ⟨v2, rfl, hb2, c5, -, ⟨x2, cap2, rfl⟩⟩
              have hs1 := str_of (HB1.out.ch c5 (fun _ _ h => h))
              have hs2 := str_of hb2
              obtain ⟨S, hS⟩ : ∃ S, S = (⟨R.toArray⟩ : ByteArray) := ⟨_, rfl⟩
              rw [← hS] at hs1 hs2
              have hbq : (S.toList == S.toList) = true := beq_str_eq rfl
              have HC5 := hid (HC4.out.trans c5)
              clear hb2 c5 hS
              go_wp2_with (go_at_call 22; refine (no1_any _ _).mono ?_; rintro e w' ⟨rfl, rfl⟩)
              go_roundw
              case rel => exact ⟨k + 1, by go_num, by omega, by omega, hid (HA.out.ch HC5.out (fun _ _ h => h)), hid (HB.out.ch HC5.out (fun _ _ h => h)), hid (HC.out.trans HC5.out)⟩
              case measure => simp [intOf]; omega
            · obtain ⟨E, HE⟩ : ∃ E, Hid ((readD d (k : Int)).1 = E) := ⟨_, hid rfl⟩
              rw [HE.out] at hr1 hg
              have hE : ((E : Int) == 0) = false := by simpa using hg
              have H1 := hid hr1
              have H2 := hid hr2
              clear hr1 hr2 hg q1 q2
              go_wp2_with fail
              refine H1.out.mono ?_
              rintro e w4 ⟨v1, rfl, -, c4, -, ⟨x1, cap1, rfl⟩⟩
              have HC4 := hid c4
              clear c4
              go_wp2_with fail
              refine (H2.out _ HC4.out).mono ?_
              rintro e w5 ⟨v2, rfl, -, c5, -, ⟨x2, cap2, rfl⟩⟩
              have HC5 := hid (HC4.out.trans c5)
              clear c5
              go_wp2_with (go_at_call 22; refine (no1_any _ _).mono ?_; rintro e w' ⟨rfl, rfl⟩)
              go_roundw
              case rel => exact ⟨k + 1, by go_num, by omega, by omega, hid (HA.out.ch HC5.out (fun _ _ h => h)), hid (HB.out.ch HC5.out (fun _ _ h => h)), hid (HC.out.trans HC5.out)⟩
              case measure => simp [intOf]; omega
          · obtain rfl : k = 20 := by omega
            go_wp2_with fail
            refine (alive1 _).mono ?_
            rintro e w4 ⟨rfl, c4⟩
            have HC4 := hid (HC.out.trans c4)
            clear c4
            go_wp2_with fail
            go_ret
            exact ⟨rfl, HC4.out⟩
        · obtain rfl : k = n := by omega
          go_wp2_with fail
          refine (alive1 _).mono ?_
          rintro e w4 ⟨rfl, c4⟩
          have HC4 := hid (HC.out.trans c4)
          clear c4
          go_wp2_with fail
          go_ret
          exact ⟨rfl, HC4.out⟩

end Go.Proofs.Ytadhibemadgcoaa
