/- Package pager: Format. Conditions: not more than 900000 steps and writes that wait. -/
import Derived.Test.YtadhibemadgcoaaPgH
namespace Go.Proofs.Ytadhibemadgcoaa
open Go.RowKit Go.MapKept Go.Maps

theorem format_none (w : World) : Calls Try.prog 53 #[.pointer none] w fun e w' => e = .returned (.int .i64 1) ∧ Ch (fun _ => False) w w' := by
  go_enter Try.func53, Try.ntmps53
  go_wp2_with (go_at_call 94; refine (fit_none _).mono ?_; rintro e w' ⟨rfl, rfl⟩)
  go_ret
  exact ⟨rfl, (Ch.refl _ _).alloc _⟩

theorem disk_ltF {w : World} {p : Nat} {d : Dk} {M F : Nat → Prop} (h : DiskAt w p d M F) : (∀ k, F k → k < w.heap.size) ∧ ∀ k, M k → F k := by
  obtain ⟨_, _, _, _, _, _, _, _, h4, h5⟩ := h; exact ⟨h5, h4⟩
theorem ch_fresh {w4 wr w5 : World} {M M' : Nat → Prop} (hc : Ch M w4 wr) (h5 : Ch M' wr w5) (hf : Fresh w4 M M') : Ch M w4 w5 :=
  hc.then h5 (fun i hi h => (hf i h).elim id (fun h => absurd hi (by omega)))
/-- Steps one behind another, till one fails. -/
def chD : List (Dk → Nat × Dk) → Dk → Nat × Dk
  | [], d => (0, d)
  | f :: fs, d => if (f d).1 ≠ 0 then f d else chD fs (f d).2
def fmtL (R : List UInt8) : List (Dk → Nat × Dk) := [fun d => writeD d 0 (zeros 512), fun d => writeD d 1 (zeros 512), flushD, fun d => writeD d 1 R, flushD]
/-- Format: the error, the disk. -/
def formatD (d : Dk) : Nat × Dk := if d.L.length < 4 then (2, d) else chD (fmtL (srootL 1 [])) d

/-- What a step of the disk does. -/
def StepPost (dp : Nat) (f : Dk → Nat × Dk) (d : Dk) (M F : Nat → Prop) (w : World) (e : Ending) (w' : World) : Prop :=
  e = .returned (.int .i64 ((f d).1 : Nat)) ∧ ∃ M' F', DiskAt w' dp (f d).2 M' F' ∧ Fresh w M M' ∧ Fresh w F F' ∧ Ch M w w'
theorem flush_step {dp : Nat} {d : Dk} {M F : Nat → Prop} (w : World) (h : DiskAt w dp d M F) (hst : d.steps ≤ 1000000) (hwt : d.wait.length ≤ 1000000) : Calls Try.prog 23 #[.pointer (some ⟨dp, 0, none⟩)] w (StepPost dp flushD d M F w) :=
  (flush_any w h hst hwt).mono fun _ _ ⟨h1, h2, h3⟩ => ⟨h1, M, F, h2, Fresh.refl _ _, Fresh.refl _ _, h3⟩
theorem fmt95 {dp b0 b1 : Nat} {d : Dk} {M F : Nat → Prop} {x : Option Addr} {n cap : Nat} {B : List UInt8} (w : World) (h : DiskAt w dp d M F) (hst : d.steps ≤ 1000000) (hwt : d.wait.length ≤ 1000000)
    (h0 : w.cell? ⟨b0, 0, none⟩ = some (.pointer (some ⟨dp, 0, none⟩))) (h1 : w.cell? ⟨b1, 0, none⟩ = some (.slice x n cap)) (hb : Bts w (.slice x n cap) B) (hl : B.length = n) (hn : ∀ k, (Value.slice x n cap).ownBlock = some k → ¬ M k) :
    Calls Try.prog 95 #[.pointer (some ⟨b0, 0, none⟩), .pointer (some ⟨b1, 0, none⟩)] w (StepPost dp (fun d => writeD d 0 B) d M F w) := by
  have HW := hid (write_any 0 x n cap B w h hst hwt hb hl hn)
  clear h hb hl hn hst hwt
  go_enter Try.func95, Try.ntmps95
  go_wp2_with fail
  refine HW.out.mono ?_
  rintro e w1 ⟨rfl, M', F', hd, hm, hf, hc⟩
  have fin : Hid (StepPost dp (fun d => writeD d 0 B) d M F w (.returned (.int .i64 ((writeD d 0 B).1 : Nat))) w1) := hid ⟨rfl, M', F', hd, hm, hf, hc⟩
  clear hd hm hf hc
  go_wp2_with fail
  go_ret
  exact fin.out
theorem fmt96 {dp b0 b1 : Nat} {d : Dk} {M F : Nat → Prop} {x : Option Addr} {n cap : Nat} {B : List UInt8} (w : World) (h : DiskAt w dp d M F) (hst : d.steps ≤ 1000000) (hwt : d.wait.length ≤ 1000000)
    (h0 : w.cell? ⟨b0, 0, none⟩ = some (.pointer (some ⟨dp, 0, none⟩))) (h1 : w.cell? ⟨b1, 0, none⟩ = some (.slice x n cap)) (hb : Bts w (.slice x n cap) B) (hl : B.length = n) (hn : ∀ k, (Value.slice x n cap).ownBlock = some k → ¬ M k) :
    Calls Try.prog 96 #[.pointer (some ⟨b0, 0, none⟩), .pointer (some ⟨b1, 0, none⟩)] w (StepPost dp (fun d => writeD d 1 B) d M F w) := by
  have HW := hid (write_any 1 x n cap B w h hst hwt hb hl hn)
  clear h hb hl hn hst hwt
  go_enter Try.func96, Try.ntmps96
  go_wp2_with fail
  refine HW.out.mono ?_
  rintro e w1 ⟨rfl, M', F', hd, hm, hf, hc⟩
  have fin : Hid (StepPost dp (fun d => writeD d 1 B) d M F w (.returned (.int .i64 ((writeD d 1 B).1 : Nat))) w1) := hid ⟨rfl, M', F', hd, hm, hf, hc⟩
  clear hd hm hf hc
  go_wp2_with fail
  go_ret
  exact fin.out
theorem fmt97 {dp b0 b1 : Nat} {d : Dk} {M F : Nat → Prop} {x : Option Addr} {n cap : Nat} {B : List UInt8} (w : World) (h : DiskAt w dp d M F) (hst : d.steps ≤ 1000000) (hwt : d.wait.length ≤ 1000000)
    (h0 : w.cell? ⟨b0, 0, none⟩ = some (.pointer (some ⟨dp, 0, none⟩))) (h1 : w.cell? ⟨b1, 0, none⟩ = some (.slice x n cap)) (hb : Bts w (.slice x n cap) B) (hl : B.length = n) (hn : ∀ k, (Value.slice x n cap).ownBlock = some k → ¬ M k) :
    Calls Try.prog 97 #[.pointer (some ⟨b0, 0, none⟩), .pointer (some ⟨b1, 0, none⟩)] w (StepPost dp (fun d => writeD d 1 B) d M F w) := by
  have HW := hid (write_any 1 x n cap B w h hst hwt hb hl hn)
  clear h hb hl hn hst hwt
  go_enter Try.func97, Try.ntmps97
  go_wp2_with fail
  refine HW.out.mono ?_
  rintro e w1 ⟨rfl, M', F', hd, hm, hf, hc⟩
  have fin : Hid (StepPost dp (fun d => writeD d 1 B) d M F w (.returned (.int .i64 ((writeD d 1 B).1 : Nat))) w1) := hid ⟨rfl, M', F', hd, hm, hf, hc⟩
  clear hd hm hf hc
  go_wp2_with fail
  go_ret
  exact fin.out

def FmtPost (w : World) (dp : Nat) (d : Dk) (M F : Nat → Prop) (R : List UInt8) (e : Ending) (w' : World) : Prop :=
  e = .returned (.int .i64 ((chD (fmtL R) d).1 : Nat)) ∧ ∃ M' F', DiskAt w' dp (chD (fmtL R) d).2 M' F' ∧ Fresh w M M' ∧ Fresh w F F' ∧ Ch M w w'

set_option maxRecDepth 20000 in
set_option maxHeartbeats 8000000 in
theorem format_ok {dp : Nat} {d : Dk} {M F : Nat → Prop} (w : World) (h : DiskAt w dp d M F) (hl : 4 ≤ d.L.length) (hst : d.steps ≤ 900000) (hwt : d.wait.length ≤ 900000) :
    Calls Try.prog 53 #[.pointer (some ⟨dp, 0, none⟩)] w (FmtPost w dp d M F (srootL 1 [])) := by
  have hfit := fit_any _ (h.ch ((Ch.refl (fun _ => False) w).alloc (.cells #[.pointer (some ⟨dp, 0, none⟩)] 24)) (fun _ _ h => h))
  rw [show fitE d.L.length = 0 by unfold fitE; rw [if_neg (by omega)]] at hfit
  have HFit := hid hfit
  have hmb := make_blank
  have HS := hid (sroot_any 1 ⟨#[]⟩ (((w.alloc (.cells #[.pointer (some ⟨dp, 0, none⟩)] 24)).alloc (.cells blankCells 5)).alloc (.cells #[.slice (some ⟨w.heap.size + 1, 0, none⟩) 512 512] 35)))
  rw [show srootE 1 (⟨#[]⟩ : ByteArray).size = 0 from rfl, show (⟨#[]⟩ : ByteArray).data.toList = [] from rfl] at HS
  obtain ⟨R, HR⟩ : ∃ R, Hid (srootL 1 [] = R) := ⟨_, hid rfl⟩
  rw [HR.out] at HS ⊢
  have HD0 := hid h
  have HLt := hid (disk_ltF h)
  clear hfit h
  go_enter Try.func53, Try.ntmps53
  go_wp2_with (go_at_call 94; refine HFit.out.mono ?_; rintro e w' ⟨rfl, rfl⟩)
  refine HS.out.mono ?_
  rintro e w2 ⟨v, rfl, hb, c, ho⟩
  obtain ⟨va, vc, rfl⟩ := hb.form
  have hq0 : w2.cell? ⟨w.heap.size, 0, none⟩ = some (.pointer (some ⟨dp, 0, none⟩)) := by
    rw [cell_blk (c.keep (heap_old (heap_old (heap_new _) _) _) (fun h => h))]; rfl
  have hb1 := heap_new (w := w.alloc (.cells #[.pointer (some ⟨dp, 0, none⟩)] 24)) (.cells blankCells 5)
  rw [show (w.alloc (.cells #[.pointer (some ⟨dp, 0, none⟩)] 24)).heap.size = w.heap.size + 1 by simp] at hb1
  have hb1' := c.keep (heap_old hb1 _) (fun h => h)
  have hb2 := heap_new (w := (w.alloc (.cells #[.pointer (some ⟨dp, 0, none⟩)] 24)).alloc (.cells blankCells 5)) (.cells #[.slice (some ⟨w.heap.size + 1, 0, none⟩) 512 512] 35)
  rw [show ((w.alloc (.cells #[.pointer (some ⟨dp, 0, none⟩)] 24)).alloc (.cells blankCells 5)).heap.size = w.heap.size + 1 + 1 by simp] at hb2
  have hq2 : w2.cell? ⟨w.heap.size + 1 + 1, 0, none⟩ = some (.slice (some ⟨w.heap.size + 1, 0, none⟩) 512 512) := by
    rw [cell_blk (c.keep hb2 (fun h => h))]; rfl
  have hz2 : w.heap.size + 1 + 1 < w2.heap.size := by have := c.size; simp at this; omega
  have hsec : SecIn w2 (w.heap.size + 1, 512) (zeros 512) := ⟨zeros_length _, Nat.le_refl _, blankCells, hb1', by simp [blankCells, bcells_length, zeros_length], by
    show (bcells (zeros 512)).take 512 = _
    rw [List.take_of_length_le (by rw [bcells_length, zeros_length]; omega)]⟩
  have HBt := hid hb
  have HSec := hid hsec.bts
  have HO : Hid (∀ k, (Value.slice va R.length vc).ownBlock = some k → w.heap.size ≤ k ) := hid (fun k hk => by have := ho k hk; simp at this; omega)
  have HC := hid (((((Ch.refl (fun _ => False) w).alloc (.cells #[.pointer (some ⟨dp, 0, none⟩)] 24)).alloc (.cells blankCells 5)).alloc (.cells #[.slice (some ⟨w.heap.size + 1, 0, none⟩) 512 512] 35)).trans c)
  have hq0b : (w2.alloc (.cells #[.slice va R.length vc] 35)).cell? ⟨w.heap.size, 0, none⟩ = some (.pointer (some ⟨dp, 0, none⟩)) := cell_ch2 hq0 ((Ch.refl (fun _ => False) w2).alloc _) (fun h => h)
  have HQ0' := hid hq0
  have HQ2' := hid hq2
  clear hb ho c hb2 hb1 hb1' hsec hq0 hq2
  go_wp2_with fail
  clear hq0b hmb
  obtain ⟨w4, hw4⟩ : ∃ w4, w4 = (w2.alloc (.cells #[.slice va R.length vc] 35)).alloc (.cells #[.func (Fn.func 95) #[] #[.pointer (some ⟨w.heap.size, 0, none⟩), .pointer (some ⟨w.heap.size + 1 + 1, 0, none⟩)], .func (Fn.func 96) #[] #[.pointer (some ⟨w.heap.size, 0, none⟩), .pointer (some ⟨w.heap.size + 1 + 1, 0, none⟩)],
    .func (Fn.func 23) #[.pointer (some ⟨dp, 0, none⟩)] #[], .func (Fn.func 97) #[] #[.pointer (some ⟨w.heap.size, 0, none⟩), .pointer (some ⟨w2.heap.size, 0, none⟩)], .func (Fn.func 23) #[.pointer (some ⟨dp, 0, none⟩)] #[]] 29) := ⟨_, rfl⟩
  have C24 : Ch (fun _ => False) w2 w4 := by rw [hw4]; exact ((Ch.refl _ _).alloc _).alloc _
  have hb4 : w4.heap[w2.heap.size + 1]? = some (.cells #[.func (Fn.func 95) #[] #[.pointer (some ⟨w.heap.size, 0, none⟩), .pointer (some ⟨w.heap.size + 1 + 1, 0, none⟩)], .func (Fn.func 96) #[] #[.pointer (some ⟨w.heap.size, 0, none⟩), .pointer (some ⟨w.heap.size + 1 + 1, 0, none⟩)],
    .func (Fn.func 23) #[.pointer (some ⟨dp, 0, none⟩)] #[], .func (Fn.func 97) #[] #[.pointer (some ⟨w.heap.size, 0, none⟩), .pointer (some ⟨w2.heap.size, 0, none⟩)], .func (Fn.func 23) #[.pointer (some ⟨dp, 0, none⟩)] #[]] 29 (0, 0)) := by
    rw [hw4]
    have := heap_new (w := w2.alloc (.cells #[.slice va R.length vc] 35)) (.cells #[.func (Fn.func 95) #[] #[.pointer (some ⟨w.heap.size, 0, none⟩), .pointer (some ⟨w.heap.size + 1 + 1, 0, none⟩)], .func (Fn.func 96) #[] #[.pointer (some ⟨w.heap.size, 0, none⟩), .pointer (some ⟨w.heap.size + 1 + 1, 0, none⟩)],
      .func (Fn.func 23) #[.pointer (some ⟨dp, 0, none⟩)] #[], .func (Fn.func 97) #[] #[.pointer (some ⟨w.heap.size, 0, none⟩), .pointer (some ⟨w2.heap.size, 0, none⟩)], .func (Fn.func 23) #[.pointer (some ⟨dp, 0, none⟩)] #[]] 29)
    rw [show (w2.alloc (.cells #[.slice va R.length vc] 35)).heap.size = w2.heap.size + 1 by simp] at this
    exact this
  have hb3 : w4.heap[w2.heap.size]? = some (.cells #[.slice va R.length vc] 35 (0, 0)) := by
    rw [hw4]; exact heap_old (heap_new _) _
  have HC4 := hid (HC.out.trans C24)
  have hMw : ∀ k, M k → k < w.heap.size := fun k hk => HLt.out.1 k (HLt.out.2 k hk)
  have H4 := hid (show w4.heap[w2.heap.size + 1]? = some (.cells #[.func (Fn.func 95) #[] #[.pointer (some ⟨w.heap.size, 0, none⟩), .pointer (some ⟨w.heap.size + 1 + 1, 0, none⟩)], .func (Fn.func 96) #[] #[.pointer (some ⟨w.heap.size, 0, none⟩), .pointer (some ⟨w.heap.size + 1 + 1, 0, none⟩)],
    .func (Fn.func 23) #[.pointer (some ⟨dp, 0, none⟩)] #[], .func (Fn.func 97) #[] #[.pointer (some ⟨w.heap.size, 0, none⟩), .pointer (some ⟨w2.heap.size, 0, none⟩)], .func (Fn.func 23) #[.pointer (some ⟨dp, 0, none⟩)] #[]] 29 (0, 0)) ∧ ¬ M (w2.heap.size + 1) ∧ True from ⟨hb4, fun hm => by have := hMw _ hm; omega, trivial⟩)
  have HQ0 := hid (fun (W : World) (hc : Ch M w4 W) => cell_ch2 (cell_ch2 HQ0'.out C24 (fun h => h)) hc (fun hm => by have : w.heap.size < w.heap.size := hMw _ hm; omega))
  have HQ2 := hid (fun (W : World) (hc : Ch M w4 W) => cell_ch2 (cell_ch2 HQ2'.out C24 (fun h => h)) hc (fun hm => by have : w.heap.size + 1 + 1 < w.heap.size := hMw _ hm; omega))
  have hq3 : w4.cell? ⟨w2.heap.size, 0, none⟩ = some (.slice va R.length vc) := by rw [cell_blk hb3]; rfl
  have HQ3 := hid (fun (W : World) (hc : Ch M w4 W) => cell_ch2 hq3 hc (fun hm => by have : w2.heap.size < w.heap.size := hMw _ hm; omega))
  have HBz := hid (fun (W : World) (hc : Ch M w4 W) => (HSec.out.ch C24 (fun _ _ h => h)).ch hc (fun k hk hm => by
    have := hMw k hm
    obtain rfl : w.heap.size + 1 = k := by simpa [secV, Value.ownBlock] using hk
    omega))
  have HBr := hid (fun (W : World) (hc : Ch M w4 W) => (HBt.out.ch C24 (fun _ _ h => h)).ch hc (fun k hk hm => by have := hMw k hm; have := HO.out k hk; omega))
  have hz24 := C24.size
  have hrlt : ∀ k, (Value.slice va R.length vc).ownBlock = some k → k < w4.heap.size := fun k hk => by
    rcases HBt.out with ⟨a, cap, e, e2⟩ | ⟨b, off, cap, cs, e, fz, h, _, hb, _⟩
    · exact absurd (congrArg List.length e2) (by rw [← HR.out]; simp [srootL, srootE, rootB_length])
    · rw [h] at hk
      obtain rfl : b = k := by simpa [Value.ownBlock] using hk
      have := blk_lt hb; omega
  have HOz : Hid (∀ k, (Value.slice (some ⟨w.heap.size + 1, 0, none⟩) 512 512).ownBlock = some k → ¬ (M k ∨ w4.heap.size ≤ k)) := hid (fun k hk hm => by
    obtain rfl : w.heap.size + 1 = k := by simpa [Value.ownBlock] using hk
    rcases hm with hm | hm
    · have := hMw _ hm; omega
    · omega)
  have HOr : Hid (∀ k, (Value.slice va R.length vc).ownBlock = some k → ¬ (M k ∨ w4.heap.size ≤ k)) := hid (fun k hk hm => by
    have h1 := HO.out k hk
    have h2 := hrlt k hk
    rcases hm with hm | hm
    · have := hMw _ hm; omega
    · omega)
  have HD4 := hid (HD0.out.ch HC4.out (fun _ _ h => h))
  rw [← hw4]
  clear hw4 C24 hb4 hb3 hq3 hMw hrlt HQ0' HQ2' HBt HSec
  go_loopw [29] (fun i wr => ∃ j : Nat, i = .int .i64 (j : Int) ∧ j ≤ 5 ∧ Hid (∃ d' M' F', DiskAt wr dp d' M' F' ∧ Pl d' d.L.length (900000 + j) ∧ chD (fmtL R) d = chD ((fmtL R).drop j) d' ∧ Fresh w4 M M' ∧ Fresh w4 F F') ∧ Hid (Ch M w4 wr)) (fun i _ => 10 - (intOf i).toNat)
  case atStart => exact ⟨0, rfl, by omega, hid ⟨d, M, F, HD4.out, ⟨rfl, hst, hwt⟩, rfl, Fresh.refl _ _, Fresh.refl _ _⟩, hid (Ch.refl _ _)⟩
  case round =>
    obtain ⟨j, rfl, hj, HI, HC⟩ := hrel
    obtain ⟨d', M', F', hD, hP, hEq, hFM, hFF⟩ := HI.out
    have HD := hid hD
    have HP := hid hP
    have HEq := hid hEq
    have HFM := hid hFM
    have HFF := hid hFF
    clear hD hP hEq hFM hFF HI
    by_cases h5 : j < 5
    · obtain rfl | rfl | rfl | rfl | rfl : j = 0 ∨ j = 1 ∨ j = 2 ∨ j = 3 ∨ j = 4 := by omega
      · have HCl := hid (fmt95 wr HD.out (by have := HP.out.steps; omega) (by have := HP.out.wait; omega) (HQ0.out wr HC.out) (HQ2.out wr HC.out) (HBz.out wr HC.out) (zeros_length 512) (fun k hk hm => HOz.out k hk (HFM.out k hm)))
        have HNx : Hid (chD ((fmtL R).drop 0) d' = if ((fun d => writeD d 0 (zeros 512)) d').1 ≠ 0 then (fun d => writeD d 0 (zeros 512)) d' else chD ((fmtL R).drop (0 + 1)) ((fun d => writeD d 0 (zeros 512)) d').2) := hid rfl
        have HPn : Hid (Pl ((fun d => writeD d 0 (zeros 512)) d').2 d.L.length (900000 + (0 + 1))) := hid (HP.out.write 0 (zeros 512))
        obtain ⟨E, HE⟩ : ∃ E, Hid (((fun d => writeD d 0 (zeros 512)) d').1 = E) := ⟨_, hid rfl⟩
        rw [HE.out] at HNx
        unfold StepPost at HCl
        rw [HE.out] at HCl
        have hcf : wr.cell? ⟨w2.heap.size + 1, 0, none⟩ = some (.func (Fn.func 95) #[] #[.pointer (some ⟨w.heap.size, 0, none⟩), .pointer (some ⟨w.heap.size + 1 + 1, 0, none⟩)]) := by
          rw [cell_blk (HC.out.keep H4.out.1 H4.out.2.1)]; rfl
        by_cases hE : E = 0
        · subst hE
          go_wp2_with fail
          refine HCl.out.mono ?_
          rintro e w5 ⟨rfl, M5, F5, hd5, hm5, hf5, c5⟩
          have HNext : Hid (∃ d' M' F', DiskAt w5 dp d' M' F' ∧ Pl d' d.L.length (900000 + (0 + 1)) ∧ chD (fmtL R) d = chD ((fmtL R).drop (0 + 1)) d' ∧ Fresh w4 M M' ∧ Fresh w4 F F') := hid (by
            refine ⟨_, M5, F5, hd5, HPn.out, by rw [HEq.out, HNx.out, if_neg (by simp)], fun k hk => ?_, fun k hk => ?_⟩
            · rcases hm5 k hk with h | h
              · exact HFM.out k h
              · exact .inr (Nat.le_trans HC.out.size h)
            · rcases hf5 k hk with h | h
              · exact HFF.out k h
              · exact .inr (Nat.le_trans HC.out.size h))
          have HC5 := hid (ch_fresh HC.out c5 HFM.out)
          clear hd5 hm5 hf5 c5
          go_wp2_with fail
          go_roundw
          case rel => exact ⟨0 + 1, by go_num, by omega, HNext, HC5⟩
          case measure => simp [intOf]
        · have hEb : ((E : Int) == 0) = false := by simpa using hE
          have HEn := hid hE
          clear hE
          go_wp2_with fail
          refine HCl.out.mono ?_
          rintro e w5 ⟨rfl, M5, F5, hd5, hm5, hf5, c5⟩
          have fin : Hid (FmtPost w dp d M F R (.returned (.int .i64 (E : Int))) w5) := hid (by
            unfold FmtPost
            rw [HEq.out, HNx.out, if_pos HEn.out, HE.out]
            have hz := HC4.out.size
            refine ⟨rfl, M5, F5, hd5, fun k hk => ?_, fun k hk => ?_, (HC4.out.mono (T := M) (fun _ _ h => h.elim)).trans (ch_fresh HC.out c5 HFM.out)⟩
            · rcases hm5 k hk with h | h
              · rcases HFM.out k h with h | h
                · exact .inl h
                · exact .inr (by omega)
              · exact .inr (Nat.le_trans (Nat.le_trans hz HC.out.size) h)
            · rcases hf5 k hk with h | h
              · rcases HFF.out k h with h | h
                · exact .inl h
                · exact .inr (by omega)
              · exact .inr (Nat.le_trans (Nat.le_trans hz HC.out.size) h))
          clear hd5 hm5 hf5 c5
          go_wp2_with fail
          go_ret
          exact fin.out
      · have HCl := hid (fmt96 wr HD.out (by have := HP.out.steps; omega) (by have := HP.out.wait; omega) (HQ0.out wr HC.out) (HQ2.out wr HC.out) (HBz.out wr HC.out) (zeros_length 512) (fun k hk hm => HOz.out k hk (HFM.out k hm)))
        have HNx : Hid (chD ((fmtL R).drop 1) d' = if ((fun d => writeD d 1 (zeros 512)) d').1 ≠ 0 then (fun d => writeD d 1 (zeros 512)) d' else chD ((fmtL R).drop (1 + 1)) ((fun d => writeD d 1 (zeros 512)) d').2) := hid rfl
        have HPn : Hid (Pl ((fun d => writeD d 1 (zeros 512)) d').2 d.L.length (900000 + (1 + 1))) := hid (HP.out.write 1 (zeros 512))
        obtain ⟨E, HE⟩ : ∃ E, Hid (((fun d => writeD d 1 (zeros 512)) d').1 = E) := ⟨_, hid rfl⟩
        rw [HE.out] at HNx
        unfold StepPost at HCl
        rw [HE.out] at HCl
        have hcf : wr.cell? ⟨w2.heap.size + 1, 1, none⟩ = some (.func (Fn.func 96) #[] #[.pointer (some ⟨w.heap.size, 0, none⟩), .pointer (some ⟨w.heap.size + 1 + 1, 0, none⟩)]) := by
          rw [cell_blk (HC.out.keep H4.out.1 H4.out.2.1)]; rfl
        by_cases hE : E = 0
        · subst hE
          go_wp2_with fail
          refine HCl.out.mono ?_
          rintro e w5 ⟨rfl, M5, F5, hd5, hm5, hf5, c5⟩
          have HNext : Hid (∃ d' M' F', DiskAt w5 dp d' M' F' ∧ Pl d' d.L.length (900000 + (1 + 1)) ∧ chD (fmtL R) d = chD ((fmtL R).drop (1 + 1)) d' ∧ Fresh w4 M M' ∧ Fresh w4 F F') := hid (by
            refine ⟨_, M5, F5, hd5, HPn.out, by rw [HEq.out, HNx.out, if_neg (by simp)], fun k hk => ?_, fun k hk => ?_⟩
            · rcases hm5 k hk with h | h
              · exact HFM.out k h
              · exact .inr (Nat.le_trans HC.out.size h)
            · rcases hf5 k hk with h | h
              · exact HFF.out k h
              · exact .inr (Nat.le_trans HC.out.size h))
          have HC5 := hid (ch_fresh HC.out c5 HFM.out)
          clear hd5 hm5 hf5 c5
          go_wp2_with fail
          go_roundw
          case rel => exact ⟨1 + 1, by go_num, by omega, HNext, HC5⟩
          case measure => simp [intOf]
        · have hEb : ((E : Int) == 0) = false := by simpa using hE
          have HEn := hid hE
          clear hE
          go_wp2_with fail
          refine HCl.out.mono ?_
          rintro e w5 ⟨rfl, M5, F5, hd5, hm5, hf5, c5⟩
          have fin : Hid (FmtPost w dp d M F R (.returned (.int .i64 (E : Int))) w5) := hid (by
            unfold FmtPost
            rw [HEq.out, HNx.out, if_pos HEn.out, HE.out]
            have hz := HC4.out.size
            refine ⟨rfl, M5, F5, hd5, fun k hk => ?_, fun k hk => ?_, (HC4.out.mono (T := M) (fun _ _ h => h.elim)).trans (ch_fresh HC.out c5 HFM.out)⟩
            · rcases hm5 k hk with h | h
              · rcases HFM.out k h with h | h
                · exact .inl h
                · exact .inr (by omega)
              · exact .inr (Nat.le_trans (Nat.le_trans hz HC.out.size) h)
            · rcases hf5 k hk with h | h
              · rcases HFF.out k h with h | h
                · exact .inl h
                · exact .inr (by omega)
              · exact .inr (Nat.le_trans (Nat.le_trans hz HC.out.size) h))
          clear hd5 hm5 hf5 c5
          go_wp2_with fail
          go_ret
          exact fin.out
      · have HCl := hid (flush_step wr HD.out (by have := HP.out.steps; omega) (by have := HP.out.wait; omega))
        have HNx : Hid (chD ((fmtL R).drop 2) d' = if (flushD d').1 ≠ 0 then flushD d' else chD ((fmtL R).drop (2 + 1)) (flushD d').2) := hid rfl
        have HPn : Hid (Pl (flushD d').2 d.L.length (900000 + (2 + 1))) := hid (HP.out.flush)
        obtain ⟨E, HE⟩ : ∃ E, Hid ((flushD d').1 = E) := ⟨_, hid rfl⟩
        rw [HE.out] at HNx
        unfold StepPost at HCl
        rw [HE.out] at HCl
        have hcf : wr.cell? ⟨w2.heap.size + 1, 2, none⟩ = some (.func (Fn.func 23) #[.pointer (some ⟨dp, 0, none⟩)] #[]) := by
          rw [cell_blk (HC.out.keep H4.out.1 H4.out.2.1)]; rfl
        by_cases hE : E = 0
        · subst hE
          go_wp2_with fail
          refine HCl.out.mono ?_
          rintro e w5 ⟨rfl, M5, F5, hd5, hm5, hf5, c5⟩
          have HNext : Hid (∃ d' M' F', DiskAt w5 dp d' M' F' ∧ Pl d' d.L.length (900000 + (2 + 1)) ∧ chD (fmtL R) d = chD ((fmtL R).drop (2 + 1)) d' ∧ Fresh w4 M M' ∧ Fresh w4 F F') := hid (by
            refine ⟨_, M5, F5, hd5, HPn.out, by rw [HEq.out, HNx.out, if_neg (by simp)], fun k hk => ?_, fun k hk => ?_⟩
            · rcases hm5 k hk with h | h
              · exact HFM.out k h
              · exact .inr (Nat.le_trans HC.out.size h)
            · rcases hf5 k hk with h | h
              · exact HFF.out k h
              · exact .inr (Nat.le_trans HC.out.size h))
          have HC5 := hid (ch_fresh HC.out c5 HFM.out)
          clear hd5 hm5 hf5 c5
          go_wp2_with fail
          go_roundw
          case rel => exact ⟨2 + 1, by go_num, by omega, HNext, HC5⟩
          case measure => simp [intOf]
        · have hEb : ((E : Int) == 0) = false := by simpa using hE
          have HEn := hid hE
          clear hE
          go_wp2_with fail
          refine HCl.out.mono ?_
          rintro e w5 ⟨rfl, M5, F5, hd5, hm5, hf5, c5⟩
          have fin : Hid (FmtPost w dp d M F R (.returned (.int .i64 (E : Int))) w5) := hid (by
            unfold FmtPost
            rw [HEq.out, HNx.out, if_pos HEn.out, HE.out]
            have hz := HC4.out.size
            refine ⟨rfl, M5, F5, hd5, fun k hk => ?_, fun k hk => ?_, (HC4.out.mono (T := M) (fun _ _ h => h.elim)).trans (ch_fresh HC.out c5 HFM.out)⟩
            · rcases hm5 k hk with h | h
              · rcases HFM.out k h with h | h
                · exact .inl h
                · exact .inr (by omega)
              · exact .inr (Nat.le_trans (Nat.le_trans hz HC.out.size) h)
            · rcases hf5 k hk with h | h
              · rcases HFF.out k h with h | h
                · exact .inl h
                · exact .inr (by omega)
              · exact .inr (Nat.le_trans (Nat.le_trans hz HC.out.size) h))
          clear hd5 hm5 hf5 c5
          go_wp2_with fail
          go_ret
          exact fin.out
      · have HCl := hid (fmt97 wr HD.out (by have := HP.out.steps; omega) (by have := HP.out.wait; omega) (HQ0.out wr HC.out) (HQ3.out wr HC.out) (HBr.out wr HC.out) rfl (fun k hk hm => HOr.out k hk (HFM.out k hm)))
        have HNx : Hid (chD ((fmtL R).drop 3) d' = if ((fun d => writeD d 1 R) d').1 ≠ 0 then (fun d => writeD d 1 R) d' else chD ((fmtL R).drop (3 + 1)) ((fun d => writeD d 1 R) d').2) := hid rfl
        have HPn : Hid (Pl ((fun d => writeD d 1 R) d').2 d.L.length (900000 + (3 + 1))) := hid (HP.out.write 1 R)
        obtain ⟨E, HE⟩ : ∃ E, Hid (((fun d => writeD d 1 R) d').1 = E) := ⟨_, hid rfl⟩
        rw [HE.out] at HNx
        unfold StepPost at HCl
        rw [HE.out] at HCl
        have hcf : wr.cell? ⟨w2.heap.size + 1, 3, none⟩ = some (.func (Fn.func 97) #[] #[.pointer (some ⟨w.heap.size, 0, none⟩), .pointer (some ⟨w2.heap.size, 0, none⟩)]) := by
          rw [cell_blk (HC.out.keep H4.out.1 H4.out.2.1)]; rfl
        by_cases hE : E = 0
        · subst hE
          go_wp2_with fail
          refine HCl.out.mono ?_
          rintro e w5 ⟨rfl, M5, F5, hd5, hm5, hf5, c5⟩
          have HNext : Hid (∃ d' M' F', DiskAt w5 dp d' M' F' ∧ Pl d' d.L.length (900000 + (3 + 1)) ∧ chD (fmtL R) d = chD ((fmtL R).drop (3 + 1)) d' ∧ Fresh w4 M M' ∧ Fresh w4 F F') := hid (by
            refine ⟨_, M5, F5, hd5, HPn.out, by rw [HEq.out, HNx.out, if_neg (by simp)], fun k hk => ?_, fun k hk => ?_⟩
            · rcases hm5 k hk with h | h
              · exact HFM.out k h
              · exact .inr (Nat.le_trans HC.out.size h)
            · rcases hf5 k hk with h | h
              · exact HFF.out k h
              · exact .inr (Nat.le_trans HC.out.size h))
          have HC5 := hid (ch_fresh HC.out c5 HFM.out)
          clear hd5 hm5 hf5 c5
          go_wp2_with fail
          go_roundw
          case rel => exact ⟨3 + 1, by go_num, by omega, HNext, HC5⟩
          case measure => simp [intOf]
        · have hEb : ((E : Int) == 0) = false := by simpa using hE
          have HEn := hid hE
          clear hE
          go_wp2_with fail
          refine HCl.out.mono ?_
          rintro e w5 ⟨rfl, M5, F5, hd5, hm5, hf5, c5⟩
          have fin : Hid (FmtPost w dp d M F R (.returned (.int .i64 (E : Int))) w5) := hid (by
            unfold FmtPost
            rw [HEq.out, HNx.out, if_pos HEn.out, HE.out]
            have hz := HC4.out.size
            refine ⟨rfl, M5, F5, hd5, fun k hk => ?_, fun k hk => ?_, (HC4.out.mono (T := M) (fun _ _ h => h.elim)).trans (ch_fresh HC.out c5 HFM.out)⟩
            · rcases hm5 k hk with h | h
              · rcases HFM.out k h with h | h
                · exact .inl h
                · exact .inr (by omega)
              · exact .inr (Nat.le_trans (Nat.le_trans hz HC.out.size) h)
            · rcases hf5 k hk with h | h
              · rcases HFF.out k h with h | h
                · exact .inl h
                · exact .inr (by omega)
              · exact .inr (Nat.le_trans (Nat.le_trans hz HC.out.size) h))
          clear hd5 hm5 hf5 c5
          go_wp2_with fail
          go_ret
          exact fin.out
      · have HCl := hid (flush_step wr HD.out (by have := HP.out.steps; omega) (by have := HP.out.wait; omega))
        have HNx : Hid (chD ((fmtL R).drop 4) d' = if (flushD d').1 ≠ 0 then flushD d' else chD ((fmtL R).drop (4 + 1)) (flushD d').2) := hid rfl
        have HPn : Hid (Pl (flushD d').2 d.L.length (900000 + (4 + 1))) := hid (HP.out.flush)
        obtain ⟨E, HE⟩ : ∃ E, Hid ((flushD d').1 = E) := ⟨_, hid rfl⟩
        rw [HE.out] at HNx
        unfold StepPost at HCl
        rw [HE.out] at HCl
        have hcf : wr.cell? ⟨w2.heap.size + 1, 4, none⟩ = some (.func (Fn.func 23) #[.pointer (some ⟨dp, 0, none⟩)] #[]) := by
          rw [cell_blk (HC.out.keep H4.out.1 H4.out.2.1)]; rfl
        by_cases hE : E = 0
        · subst hE
          go_wp2_with fail
          refine HCl.out.mono ?_
          rintro e w5 ⟨rfl, M5, F5, hd5, hm5, hf5, c5⟩
          have HNext : Hid (∃ d' M' F', DiskAt w5 dp d' M' F' ∧ Pl d' d.L.length (900000 + (4 + 1)) ∧ chD (fmtL R) d = chD ((fmtL R).drop (4 + 1)) d' ∧ Fresh w4 M M' ∧ Fresh w4 F F') := hid (by
            refine ⟨_, M5, F5, hd5, HPn.out, by rw [HEq.out, HNx.out, if_neg (by simp)], fun k hk => ?_, fun k hk => ?_⟩
            · rcases hm5 k hk with h | h
              · exact HFM.out k h
              · exact .inr (Nat.le_trans HC.out.size h)
            · rcases hf5 k hk with h | h
              · exact HFF.out k h
              · exact .inr (Nat.le_trans HC.out.size h))
          have HC5 := hid (ch_fresh HC.out c5 HFM.out)
          clear hd5 hm5 hf5 c5
          go_wp2_with fail
          go_roundw
          case rel => exact ⟨4 + 1, by go_num, by omega, HNext, HC5⟩
          case measure => simp [intOf]
        · have hEb : ((E : Int) == 0) = false := by simpa using hE
          have HEn := hid hE
          clear hE
          go_wp2_with fail
          refine HCl.out.mono ?_
          rintro e w5 ⟨rfl, M5, F5, hd5, hm5, hf5, c5⟩
          have fin : Hid (FmtPost w dp d M F R (.returned (.int .i64 (E : Int))) w5) := hid (by
            unfold FmtPost
            rw [HEq.out, HNx.out, if_pos HEn.out, HE.out]
            have hz := HC4.out.size
            refine ⟨rfl, M5, F5, hd5, fun k hk => ?_, fun k hk => ?_, (HC4.out.mono (T := M) (fun _ _ h => h.elim)).trans (ch_fresh HC.out c5 HFM.out)⟩
            · rcases hm5 k hk with h | h
              · rcases HFM.out k h with h | h
                · exact .inl h
                · exact .inr (by omega)
              · exact .inr (Nat.le_trans (Nat.le_trans hz HC.out.size) h)
            · rcases hf5 k hk with h | h
              · rcases HFF.out k h with h | h
                · exact .inl h
                · exact .inr (by omega)
              · exact .inr (Nat.le_trans (Nat.le_trans hz HC.out.size) h))
          clear hd5 hm5 hf5 c5
          go_wp2_with fail
          go_ret
          exact fin.out
    · obtain rfl : j = 5 := by omega
      have fin : Hid (FmtPost w dp d M F R (.returned (.int .i64 0)) wr) := hid (by
        unfold FmtPost
        rw [HEq.out]
        have hz := HC4.out.size
        refine ⟨rfl, M', F', HD.out, fun k hk => ?_, fun k hk => ?_, (HC4.out.mono (T := M) (fun _ _ h => h.elim)).trans HC.out⟩
        · rcases HFM.out k hk with h | h
          · exact .inl h
          · exact .inr (by omega)
        · rcases HFF.out k hk with h | h
          · exact .inl h
          · exact .inr (by omega))
      go_wp2_with fail
      go_ret
      exact fin.out

end Go.Proofs.Ytadhibemadgcoaa
