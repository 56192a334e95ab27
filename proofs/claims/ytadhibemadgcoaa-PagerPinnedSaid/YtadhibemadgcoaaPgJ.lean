/- Package pager: Open. Conditions: not more than a million writes that wait. -/
import Derived.Test.YtadhibemadgcoaaPgI
import Derived.Test.YtadhibemadgcoaaPagePure3
namespace Go.Proofs.Ytadhibemadgcoaa
open Go.RowKit Go.MapKept Go.Maps

theorem format_bad {dp : Nat} {d : Dk} {M F : Nat → Prop} (w : World) (h : DiskAt w dp d M F) (hl : d.L.length < 4) :
    Calls Try.prog 53 #[.pointer (some ⟨dp, 0, none⟩)] w fun e w' => e = .returned (.int .i64 2) ∧ Ch (fun _ => False) w w' := by
  have hfit := fit_any _ (h.ch ((Ch.refl (fun _ => False) w).alloc (.cells #[.pointer (some ⟨dp, 0, none⟩)] 24)) (fun _ _ h => h))
  rw [show fitE d.L.length = 2 by unfold fitE; rw [if_pos hl]] at hfit
  have HFit := hid hfit
  clear hfit h hl
  go_enter Try.func53, Try.ntmps53
  go_wp2_with (go_at_call 94; refine HFit.out.mono ?_; rintro e w' ⟨rfl, rfl⟩)
  go_ret
  exact ⟨rfl, (Ch.refl _ _).alloc _⟩

/-- The better root of two. -/
def pickR (i : Nat) (b : List UInt8) (acc : Nat × List UInt8) : Nat × List UInt8 := match rootL b with
  | some (g, s) => if g % 2 = i ∧ acc.1 < g then (g, s) else acc
  | none => acc
def accR (d : Dk) : Nat → Nat × List UInt8
  | 0 => (0, [])
  | j + 1 => pickR j (readD d (j : Int)).2 (accR d j)
/-- A pager on a disk, with this root. -/
def newP (d : Dk) (a : Nat × List UInt8) : Pg := { d := d, gen := a.1, root := a.2, pages := List.replicate d.L.length (0, 0), pins := [], dead := false, ops := 0 }
/-- Open: the error, and the pager. -/
def openE (d : Dk) : Nat := if d.L.length < 4 then 2 else if d.gone = true then 9 else if (accR d 2).1 = 0 then 10 else 0
def openP (d : Dk) : Pg := newP d (accR d 2)

theorem rootL_le {b : List UInt8} {g : Nat} {s : List UInt8} (h : rootL b = some (g, s)) : g ≤ 4611686018427387904 := (root_some h).2.2.1
theorem accR_le (d : Dk) : ∀ j, (accR d j).1 ≤ 4611686018427387904 := by
  intro j
  induction j with
  | zero => simp [accR]
  | succ j ih =>
    show (pickR j (readD d (j : Int)).2 (accR d j)).1 ≤ _
    unfold pickR
    split
    · rename_i g s hr
      split
      · exact rootL_le hr
      · exact ih
    · exact ih

theorem Try.info155 : (Try.prog.info? 155).map (fun i => (i.zero, i.size, i.bytes)) = some (some (.agg #[.int .i64 0, .int .i64 0]), 2, 16) := by kernel_rfl
theorem made_pages (n : Nat) : madeCells #[Value.int .i64 0, Value.int .i64 0] (n * 2) = (pgCells (List.replicate n (0, 0))).toArray := by
  have e : pgCells (List.replicate n (0, 0)) = List.replicate (n * 2) (Value.int .i64 0) := by
    induction n with
    | zero => rfl
    | succ n ih =>
      rw [List.replicate_succ, show pgCells ((0, 0) :: List.replicate n (0, 0)) = .int .i64 0 :: .int .i64 0 :: pgCells (List.replicate n (0, 0)) from rfl, ih, show (n + 1) * 2 = n * 2 + 1 + 1 by omega, List.replicate_succ, List.replicate_succ]
  rw [e]
  apply Array.ext'
  simp only [madeCells]
  simp [List.eq_replicate_iff]
  intro b _
  rcases Nat.mod_two_eq_zero_or_one b with e | e <;> simp [e]
theorem make_pages (n : Nat) (hn : n ≤ 4096) (w : World) : (Instr.makeSlice 150 (.int .i64 (n : Int)) (.int .i64 (n : Int))).run Try.prog w = .ok (.slice (some ⟨w.heap.size, 0, none⟩) n n) (w.alloc (.cells (pgCells (List.replicate n (0, 0))).toArray 155)) := by
  obtain ⟨i, hi, hzz⟩ := Option.map_eq_some_iff.1 Try.info155
  simp only [Prod.mk.injEq] at hzz
  obtain ⟨hz, hs, hb⟩ := hzz
  have hb' : (i.bytes : Int) * (n : Int) ≤ 281474976710656 := by rw [hb]; omega
  have hr := run_make (P := Try.prog) w 150 155 i (.agg #[.int .i64 0, .int .i64 0]) Try.underlying150 hi hz .i64 .i64 n n (by omega) (Int.le_refl _) hb' (by omega)
  simp only [Int.toNat_natCast, hs] at hr
  rw [hr]
  rw [show (Value.agg #[Value.int .i64 0, Value.int .i64 0]).cells = #[Value.int .i64 0, Value.int .i64 0] from rfl, made_pages]

theorem open_nil (w : World) : Calls Try.prog 54 #[.pointer none] w fun e w' => e = .returned (.tuple #[.pointer none, .int .i64 1]) ∧ w = w' := by
  go_enter Try.func54, Try.ntmps54
  go_wp2_with (go_at_call 94; refine (fit_none _).mono ?_; rintro e w' ⟨rfl, rfl⟩)
  go_ret2
  exact ⟨rfl, rfl⟩

def OpenPost (w : World) (dp : Nat) (d : Dk) (M F : Nat → Prop) (e : Ending) (w' : World) : Prop :=
  Ch (fun _ => False) w w' ∧ ((openE d ≠ 0 ∧ e = .returned (.tuple #[.pointer none, .int .i64 (openE d : Nat)])) ∨
    (openE d = 0 ∧ ∃ pp gb mb O, e = .returned (.tuple #[.pointer (some ⟨pp, 0, none⟩), .int .i64 0]) ∧ PgX w' pp dp gb mb (openP d) M F O ∧ ∀ k, O k → w.heap.size ≤ k))

set_option maxRecDepth 20000 in
set_option maxHeartbeats 4000000 in
theorem popen_any {dp : Nat} {d : Dk} {M F : Nat → Prop} (w : World) (h : DiskAt w dp d M F) (hwt : d.wait.length ≤ 1000000) :
    Calls Try.prog 54 #[.pointer (some ⟨dp, 0, none⟩)] w (OpenPost w dp d M F) := by
  have HD := hid h
  have hsz := size_any w h
  have hfit := fit_any w h
  have n2 := h.sane.n2
  have hlt := disk_ltF h
  obtain ⟨n, HN⟩ : ∃ n, Hid (d.L.length = n) := ⟨_, hid rfl⟩
  rw [HN.out] at hsz hfit n2
  by_cases h4 : n < 4
  · have fin : Hid (OpenPost w dp d M F (.returned (.tuple #[.pointer none, .int .i64 2])) w) := hid (by
      have e : openE d = 2 := by unfold openE; rw [if_pos (by rw [HN.out]; exact h4)]
      exact ⟨Ch.refl _ _, .inl ⟨by rw [e]; simp, by rw [e]; rfl⟩⟩)
    rw [show fitE n = 2 by unfold fitE; rw [if_pos h4]] at hfit
    have HFit := hid hfit
    clear hfit hsz h h4 hlt
    go_enter Try.func54, Try.ntmps54
    go_wp2_with (go_at_call 94; refine HFit.out.mono ?_; rintro e w' ⟨rfl, rfl⟩)
    go_ret2
    exact fin.out
  rw [show fitE n = 0 by unfold fitE; rw [if_neg h4]] at hfit
  have HFit := hid hfit
  have HSz := hid hsz
  have HLt := hid hlt
  have hmk := make_pages n n2 w
  obtain ⟨PC, HPC⟩ : ∃ PC, Hid ((pgCells (List.replicate n (0, 0))).toArray = PC) := ⟨_, hid rfl⟩
  rw [HPC.out] at hmk
  have hmm := run_makeMap (P := Try.prog) 151 (w.alloc (.cells PC 155))
  clear hfit hsz h hlt
  go_enter Try.func54, Try.ntmps54
  go_wp2_with (first | (go_at_call 94; refine HFit.out.mono ?_; rintro e w' ⟨rfl, rfl⟩) | (go_at_call 44; refine HSz.out.mono ?_; rintro e w' ⟨rfl, rfl⟩))
  clear hmk hmm
  obtain ⟨w3, hw3⟩ : ∃ w3, w3 = ((w.alloc (.cells PC 155)).alloc (.map #[] 0)).alloc (.cells #[.pointer (some ⟨dp, 0, none⟩), .int .i64 0, .string ⟨#[]⟩, .slice (some ⟨w.heap.size, 0, none⟩) n n, .map (some (w.heap.size + 1)), .bool false] 153) := ⟨_, rfl⟩
  have HC3 : Hid (Ch (fun _ => False) w w3) := hid (by rw [hw3]; exact (((Ch.refl _ w).alloc _).alloc _).alloc _)
  have HO : Hid (∀ k, (k = w.heap.size + 1 + 1 ∨ k = w.heap.size ∨ k = w.heap.size + 1) → w.heap.size ≤ k) := hid (fun k hk => by omega)
  have HX3 : Hid (PgX w3 (w.heap.size + 1 + 1) dp w.heap.size (w.heap.size + 1) (newP d (accR d 0)) M F (fun k => k = w.heap.size + 1 + 1 ∨ k = w.heap.size ∨ k = w.heap.size + 1)) := hid (by
    have hz3 : w3.heap.size = w.heap.size + 3 := by rw [hw3]; simp
    have e3 : (newP d (accR d 0)).pages = List.replicate n (0, 0) := by show List.replicate d.L.length (0, 0) = _; rw [HN.out]
    have e4 : (newP d (accR d 0)).pages.length = n := by rw [e3, List.length_replicate]
    refine ⟨⟨by rw [e4]; omega, by rw [e4]; exact n2, by simp [newP, accR], ?_, by simp [newP], by simp [newP], ?_, ?_, ?_⟩, HD.out.ch HC3.out (fun _ _ h => h), by rw [e4]; exact HN.out.symm, .inl rfl, .inr (.inl rfl), .inr (.inr rfl), fun k hk => ⟨fun hf => ?_, ?_⟩⟩
    · intro x hx
      rw [e3] at hx
      rw [(List.mem_replicate.1 hx).2]; simp
    · rw [e4, hw3]
      have := heap_new (w := (w.alloc (.cells PC 155)).alloc (.map #[] 0)) (.cells #[.pointer (some ⟨dp, 0, none⟩), .int .i64 0, .string ⟨#[]⟩, .slice (some ⟨w.heap.size, 0, none⟩) n n, .map (some (w.heap.size + 1)), .bool false] 153)
      rw [show ((w.alloc (.cells PC 155)).alloc (.map #[] 0)).heap.size = w.heap.size + 1 + 1 by simp] at this
      exact this
    · rw [hw3, e3, HPC.out]
      exact heap_old (heap_old (heap_new _) _) _
    · have hm := PinAt.made (w.alloc (.cells PC 155))
      rw [show (w.alloc (.cells PC 155)).heap.size = w.heap.size + 1 by simp] at hm
      have hml := hm.lt
      refine hm.frame ?_
      rw [hw3]
      exact Below.heap_alloc _ _ _ hml
    · have := HLt.out.1 k hf; omega
    · rw [hz3]; omega)
  rw [← hw3]
  obtain ⟨pp, hpp⟩ : ∃ pp, pp = w.heap.size + 1 + 1 := ⟨_, rfl⟩
  obtain ⟨gb, hgb⟩ : ∃ gb, gb = w.heap.size := ⟨_, rfl⟩
  obtain ⟨mb, hmb⟩ : ∃ mb, mb = w.heap.size + 1 := ⟨_, rfl⟩
  obtain ⟨O, hO⟩ : ∃ O : Nat → Prop, O = fun k => k = w.heap.size + 1 + 1 ∨ k = w.heap.size ∨ k = w.heap.size + 1 := ⟨_, rfl⟩
  have HO2 : Hid (∀ k, O k → w.heap.size ≤ k) := hid (by rw [hO]; exact HO.out)
  rw [← hO] at HX3
  rw [← hpp, ← hmb, ← hgb] at HX3
  rw [← hpp, ← hmb, ← hgb]
  clear hw3 HO hO hpp hgb hmb
  go_loopw [24] (fun i wr => ∃ j : Nat, i = .int .i64 (j : Int) ∧ j ≤ 2 ∧ Hid (PgX wr pp dp gb mb (newP d (accR d j)) M F O) ∧ Hid (Ch (fun _ => False) w wr) ∧ Hid (0 < j → ¬ d.gone = true)) (fun i _ => 10 - (intOf i).toNat)
  case atStart => exact ⟨0, rfl, by omega, HX3, HC3, hid (fun h => by omega)⟩
  case round =>
    obtain ⟨j, rfl, hj, HI, HC, HG⟩ := hrel
    by_cases hlt : j < 2
    · have hjr : 0 ≤ (j : Int) ∧ (j : Int) < d.L.length := by rw [HN.out]; omega
      have HJr := hid hjr
      have hrd := read_any (j : Int) wr (HD.out.ch HC.out (fun _ _ h => h)) hwt
      by_cases hg : d.gone = true
      · have e9 : readD d (j : Int) = (9, []) := by unfold readD; rw [if_neg (fun h => h hjr), if_pos hg]
        rw [e9] at hrd
        have fin : Hid (∀ W, Ch (fun _ => False) w W → OpenPost w dp d M F (.returned (.tuple #[.pointer none, .int .i64 9])) W) := hid (fun W hW => by
          have e : openE d = 9 := by unfold openE; rw [if_neg (by rw [HN.out]; exact h4), if_pos hg]
          exact ⟨hW, .inl ⟨by rw [e]; simp, by rw [e]; rfl⟩⟩)
        have HRd := hid hrd
        clear hrd e9 hg hjr h4
        go_wp2_with fail
        refine HRd.out.mono ?_
        rintro e w4 ⟨v, rfl, -, c4, -, ⟨x, cap, rfl⟩⟩
        have HC4 := hid (HC.out.trans c4)
        clear c4
        go_wp2_with fail
        go_ret2
        exact fin.out _ HC4.out
      · obtain ⟨B, HB⟩ : ∃ B, Hid ((readD d (j : Int)).2 = B) := ⟨_, hid rfl⟩
        have e0 : (readD d (j : Int)).1 = 0 := by unfold readD; rw [if_neg (fun h => h hjr), if_neg hg]
        rw [e0, HB.out] at hrd
        have HRd := hid hrd
        have HGn := hid hg
        have HBl : Hid (B.length ≤ 140737488355328) := hid (by
          have hs := HD.out.sane
          have : ∀ l ∈ (applyW d.wait d.L), l.length = 512 := applyW_secs _ (fun x hx => (hs.wait x hx).1) _ hs.secs
          rw [← HB.out]
          unfold readD
          rw [if_neg (fun h => h hjr), if_neg hg]
          have hl : (j : Int).toNat < d.L.length := by have := hjr.2; omega
          show (readW d.wait (j : Int).toNat (d.L.getD (j : Int).toNat [])).length ≤ _
          rw [readW_apply _ _ _ hl, List.getD, List.getElem?_eq_getElem (by rw [applyW_length]; exact hl), Option.getD_some, this _ (List.getElem_mem _)]
          omega)
        have HAcc : Hid (accR d (j + 1) = pickR j B (accR d j)) := hid (by rw [← HB.out]; rfl)
        have ha := accR_le d j
        obtain ⟨a, HAa⟩ : ∃ a, Hid (accR d j = a) := ⟨_, hid rfl⟩
        rw [HAa.out] at ha HI HAcc
        have hppz := blk_lt HI.out.1.hp
        clear hrd e0 hg hjr
        go_wp2_with fail
        refine HRd.out.mono ?_
        rintro e w4 ⟨v, rfl, hb, c4, -, ⟨x, cap, rfl⟩⟩
        have HC4 := hid (HC.out.trans c4)
        have HX4 := hid (HI.out.ch c4 (fun _ _ h => h) (fun _ _ h => h))
        have HBt := hid hb
        clear hb c4
        go_wp2_with fail
        refine (rootopen_any _ B _ HBl.out HBt.out).mono ?_
        rintro e w5 ⟨rfl, c5⟩
        have HC5 := hid (HC4.out.trans c5)
        have HX5 := hid (HX4.out.ch c5 (fun _ _ h => h) (fun _ _ h => h))
        clear c5
        cases hr : rootL B with
        | none =>
          have HN5 : Hid (PgX w5 pp dp gb mb (newP d (accR d (j + 1))) M F O) := hid (by rw [HAcc.out, show pickR j B a = a by unfold pickR; rw [hr]]; exact HX5.out)
          unfold rootV
          clear hr
          go_wp2_with fail
          go_roundw
          case rel => exact ⟨j + 1, by go_num, by omega, HN5, HC5, hid (fun _ => HGn.out)⟩
          case measure => simp [intOf]; omega
        | some y =>
          obtain ⟨g, s⟩ := y
          have hgb := rootL_le hr
          have c1 := cell_blk HX5.out.1.hp 1
          have c2 := cell_blk HX5.out.1.hp 2
          have f1 := frozen_blk HX5.out.1.hp 1
          have f2 := frozen_blk HX5.out.1.hp 2
          simp [newP] at c1 c2
          by_cases hp : g % 2 = j
          · have hpb : ((g : Int) % 2 == (j : Int)) = true := by rw [beq_iff_eq]; omega
            by_cases hgt : (a.1 : Int) < (g : Int)
            · have HN5 : Hid (∀ W, W = (w5.setCell ⟨pp, 1, none⟩ (.int .i64 (g : Int))).setCell ⟨pp, 2, none⟩ (.string ⟨s.toArray⟩) → PgX W pp dp gb mb (newP d (accR d (j + 1))) M F O ∧ Ch (fun _ => False) w W) := hid (by
                rintro W rfl
                rw [HAcc.out, show pickR j B a = (g, s) by unfold pickR; rw [hr]; show (if g % 2 = j ∧ a.1 < g then (g, s) else a) = _; rw [if_pos ⟨hp, by omega⟩]]
                obtain ⟨h1, h2, h3, h4, h5, h6, h7⟩ := HX5.out
                have := PgAt.head h1 h2 h3 h4 h5 h6 h7 g s false hgb (w' := (w5.setCell ⟨pp, 1, none⟩ (.int .i64 (g : Int))).setCell ⟨pp, 2, none⟩ (.string ⟨s.toArray⟩)) (by rw [heap_set (heap_set h1.hp 1 _) 2 _]; rfl) (fun k hk => by rw [Below.heap_setCell _ _ _ _ hk, Below.heap_setCell _ _ _ _ hk]) (by simp [World.setCell])
                exact ⟨this, (HC5.out.setCell (fun hh => by have := HO2.out pp h4; have : pp < w.heap.size := hh; omega) _).setCell (fun hh => by have := HO2.out pp h4; have : pp < w.heap.size := hh; omega) _⟩)
              unfold rootV
              clear hr hp
              go_wp2_with fail
              go_roundw
              case rel => exact ⟨j + 1, by go_num, by omega, hid (HN5.out _ rfl).1, hid (HN5.out _ rfl).2, hid (fun _ => HGn.out)⟩
              case measure => simp [intOf]; omega
            · have HN5 : Hid (PgX w5 pp dp gb mb (newP d (accR d (j + 1))) M F O) := hid (by
                rw [HAcc.out, show pickR j B a = a by unfold pickR; rw [hr]; show (if g % 2 = j ∧ a.1 < g then (g, s) else a) = _; rw [if_neg (fun h => by omega)]]
                exact HX5.out)
              unfold rootV
              clear hr hp
              go_wp2_with fail
              go_roundw
              case rel => exact ⟨j + 1, by go_num, by omega, HN5, HC5, hid (fun _ => HGn.out)⟩
              case measure => simp [intOf]; omega
          · have hpb : ((g : Int) % 2 == (j : Int)) = false := by rw [beq_eq_false_iff_ne]; omega
            have HN5 : Hid (PgX w5 pp dp gb mb (newP d (accR d (j + 1))) M F O) := hid (by
              rw [HAcc.out, show pickR j B a = a by unfold pickR; rw [hr]; show (if g % 2 = j ∧ a.1 < g then (g, s) else a) = _; rw [if_neg (fun h => hp h.1)]]
              exact HX5.out)
            unfold rootV
            clear hr hp
            go_wp2_with fail
            go_roundw
            case rel => exact ⟨j + 1, by go_num, by omega, HN5, HC5, hid (fun _ => HGn.out)⟩
            case measure => simp [intOf]; omega
    · obtain rfl : j = 2 := by omega
      have c1 := cell_blk HI.out.1.hp 1
      simp [newP] at c1
      have hng := HG.out (by omega)
      by_cases h0 : (accR d 2).1 = 0
      · have fin : Hid (OpenPost w dp d M F (.returned (.tuple #[.pointer none, .int .i64 10])) wr) := hid (by
          have e : openE d = 10 := by unfold openE; rw [if_neg (by rw [HN.out]; exact h4), if_neg hng, if_pos h0]
          exact ⟨HC.out, .inl ⟨by rw [e]; simp, by rw [e]; rfl⟩⟩)
        rw [h0] at c1
        clear h0 hng h4
        go_wp2_with fail
        go_ret2
        exact fin.out
      · have fin : Hid (OpenPost w dp d M F (.returned (.tuple #[.pointer (some ⟨pp, 0, none⟩), .int .i64 0])) wr) := hid (by
          have e : openE d = 0 := by unfold openE; rw [if_neg (by rw [HN.out]; exact h4), if_neg hng, if_neg h0]
          exact ⟨HC.out, .inr ⟨e, pp, gb, mb, O, rfl, HI.out, HO2.out⟩⟩)
        obtain ⟨a1, HA1⟩ : ∃ a1, Hid ((accR d 2).1 = a1) := ⟨_, hid rfl⟩
        rw [HA1.out] at c1 h0
        have h0b : ((a1 : Int) == 0) = false := by rw [beq_eq_false_iff_ne]; omega
        clear h0 hng h4
        go_wp2_with fail
        go_ret2
        exact fin.out

end Go.Proofs.Ytadhibemadgcoaa
