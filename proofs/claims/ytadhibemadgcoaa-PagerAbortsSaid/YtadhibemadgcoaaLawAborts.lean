/- PagerAborts answers true. Conditions: the arguments are slices of strings, and of ints. -/
import Derived.Test.YtadhibemadgcoaaPgW
namespace Go.Proofs.Ytadhibemadgcoaa
open Go.RowKit

set_option maxRecDepth 20000 in
set_option maxHeartbeats 8000000 in
theorem aborts_any (la : Option Addr) (lcap : Nat) (l : List ByteArray) (ma : Option Addr) (mcap : Nat) (more : List ByteArray) (ga : Option Addr) (gcap : Nat) (drops : List Int) (w : World)
    (hl : Strs w (.slice la l.length lcap) l) (hm : Strs w (.slice ma more.length mcap) more) (hg : Ints w (.slice ga drops.length gcap) drops) :
    Calls Try.prog 15 #[.slice la l.length lcap, .slice ma more.length mcap, .slice ga drops.length gcap] w fun e w' => e = .returned (.bool true) ∧ Ch (fun _ => False) w w' := by
  have HLl := hid hl
  have HMo := hid hm
  have HGo := hid hg
  clear hl hm hg
  go_enter Try.func15, Try.ntmps15
  go_wp2_with fail
  refine (begun_any 30 la lcap l w (by omega) (by omega) HLl.out).mono ?_
  rintro e w1 ⟨dp, pp, Q, ha, hcap, p0, has, rfl, hz, hb, hh, -⟩
  have HZ := hid hz
  have HB := hid hb
  have HH := hid hh
  have HA0 := hid (hb.abI (by omega))
  have hm12 := hb.len
  obtain ⟨m, HM⟩ : ∃ m, Hid (has.length = m) := ⟨_, hid rfl⟩
  rw [HM.out] at hm12 HH
  clear hz hb hh
  rw [HM.out]
  go_wp2_with fail
  refine (alive3 _).mono ?_
  rintro e w2 ⟨rfl, c2⟩
  have HZ2 := hid (HZ.out.ch c2 (fun _ _ h => h) (fun _ _ h => h))
  have HH2 := hid (HH.out.ch c2 (fun _ h _ => h.elim) (Fresh.refl _ _))
  have HB2 := hid HZ2.out.base
  clear c2
  by_cases hmo : 12 < more.length
  · go_wp2_with fail
    go_ret
    exact ⟨rfl, HB2.out⟩
  by_cases hdr : 20 < drops.length
  · go_wp2_with fail
    go_ret
    exact ⟨rfl, HB2.out⟩
  have HF := hid (free_z w2 HZ2.out)
  rw [HB.out.pages] at HF
  have hfn : freeL ((0, 0) :: (0, 0) :: (List.replicate has.length (1, 0) ++ List.replicate (30 - 2 - has.length) (0, 0))) = 28 - m := by
    have := bPages_free 30 has.length; unfold bPages at this; rw [this, HM.out]
  rw [hfn] at HF
  clear hfn
  go_wp2_with fail
  refine HF.out.mono ?_
  rintro e w3 ⟨rfl, Q3, hz3, hf3, hc3⟩
  have HZ3 := hid hz3
  have HH3 := hid (HH2.out.ch hc3 (fun _ h _ => h) hf3)
  clear hz3 hf3 hc3 HF
  go_wp2_with fail
  go_loopw [44] (fun i wr => ∃ j : Nat, i = .int .i64 (j : Int) ∧ j ≤ more.length ∧ Hid (∃ p Q, PZ w wr pp dp p Q ∧ AbI p 30 (2000 + j) has ∧ HasAt wr w.heap.size Q (.slice ha m hcap) m has)) (fun i _ => 100 - (intOf i).toNat)
  case atStart => exact ⟨0, rfl, Nat.zero_le _, hid ⟨_, _, HZ3.out, HA0.out, HH3.out⟩⟩
  case round =>
    obtain ⟨j, rfl, hj, HI⟩ := hrel
    obtain ⟨p, Qp, hz, hab, hh⟩ := HI.out
    have HZ := hid hz
    have HA := hid hab
    have HH := hid hh
    have HC := hid hz.base
    clear hz hab hh
    by_cases hlt : j < more.length
    · obtain ⟨x, HX⟩ : ∃ x, Hid (more[j]? = some x) := ⟨more[j]'hlt, hid (List.getElem?_eq_getElem _)⟩
      obtain ⟨b, off, rfl, hcell, hblt⟩ := (HMo.out.ch HC.out (fun _ _ h => h)).get HX.out
      obtain ⟨N, hN⟩ : ∃ N : Nat, (if 492 < (x.size : Int) then 492 else (x.size : Int)) = (N : Int) := ⟨min x.size 492, by split <;> omega⟩
      have hNx : (N : Int) ≤ (x.size : Int) := by split at hN <;> omega
      have HCs : Hid ((x.extract 0 N).size ≤ 492) := hid (by rw [ByteArray.size_extract]; split at hN <;> omega)
      obtain ⟨r1, r2, p', hp1, hp2⟩ := HA.out.put (x.extract 0 N).data.toList (by rw [size_toList]; exact HCs.out)
      have hpt := put_z 1 (x.extract 0 N) wr HZ.out HA.out.hp (by omega)
      rw [hp1] at hpt
      have HPT := hid hpt
      have HA2 := hid hp2
      clear hpt hp1 hp2
      go_wp2_with fail
      refine HPT.out.mono ?_
      rintro e w6 ⟨rfl, Q6, hz6, hf6, hc6⟩
      have HZ6 := hid hz6
      have HH6 := hid (HH.out.ch hc6 (fun _ h _ => h) hf6)
      clear hz6 hf6 hc6
      go_wp2_with fail
      go_roundw
      case rel => exact ⟨j + 1, by go_num, by omega, hid ⟨p', Q6, HZ6.out, HA2.out, HH6.out⟩⟩
      case measure => simp [intOf]; omega
    · go_wp2_with fail
      go_loopw [58] (fun i wr => ∃ j : Nat, i = .int .i64 (j : Int) ∧ j ≤ drops.length ∧ Hid (∃ p Q, PZ w wr pp dp p Q ∧ AbI p 30 3000 has ∧ HasAt wr w.heap.size Q (.slice ha m hcap) m has)) (fun i _ => 100 - (intOf i).toNat)
      case atStart => exact ⟨0, rfl, Nat.zero_le _, hid ⟨_, _, HZ.out, HA.out.up (by omega), HH.out⟩⟩
      case round =>
        clear HZ HA HH HC HI
        obtain ⟨j, rfl, hj, HI⟩ := hrel
        obtain ⟨p, Qp, hz, hab, hh⟩ := HI.out
        have HZ := hid hz
        have HA := hid hab
        have HH := hid hh
        have HC := hid hz.base
        clear hz hab hh
        by_cases hlt : j < drops.length
        · obtain ⟨x, HX⟩ : ∃ x, Hid (drops[j]? = some x) := ⟨drops[j]'hlt, hid (List.getElem?_eq_getElem _)⟩
          obtain ⟨b, off, rfl, hcell, hblt⟩ := (HGo.out.ch HC.out (fun _ _ h => h)).get HX.out
          have HDR := hid (drop_z x wr HZ.out)
          have HA2 := hid (HA.out.drop x)
          go_wp2_with fail
          refine HDR.out.mono ?_
          rintro e w6 ⟨rfl, Q6, hz6, hf6, hc6⟩
          have HZ6 := hid hz6
          have HH6 := hid (HH.out.ch hc6 (fun _ h _ => h) hf6)
          clear hz6 hf6 hc6
          go_wp2_with fail
          go_roundw
          case rel => exact ⟨j + 1, by go_num, by omega, hid ⟨_, Q6, HZ6.out, HA2.out, HH6.out⟩⟩
          case measure => simp [intOf]; omega
        · have HAb := hid (abort_z wr HZ.out)
          have hd0 := HA.out.abort
          rw [HM.out] at hd0
          have HD0 := hid hd0
          clear hd0
          obtain ⟨q, HQ⟩ : ∃ q, Hid (abortP p = q) := ⟨_, hid rfl⟩
          rw [HQ.out] at HAb HD0
          go_wp2_with fail
          refine HAb.out.mono ?_
          rintro e w6 ⟨rfl, Q6, hz6, hf6, hc6⟩
          have hfr := free_z w6 hz6
          rw [HD0.out.free] at hfr
          have HFR := hid hfr
          have HH6 := hid (HH.out.ch hc6 (fun _ h _ => h) hf6)
          clear hz6 hf6 hc6 hfr
          go_wp2_with fail
          refine HFR.out.mono ?_
          rintro e w7 ⟨rfl, Q7, hz7, hf7, hc7⟩
          have hgn := gen_z w7 hz7
          have hrt := root_z w7 hz7
          rw [HD0.out.gen] at hgn
          rw [HD0.out.root] at hrt
          have HGn := hid hgn
          have HRt := hid hrt
          have HZ7 := hid hz7
          have HH7 := hid (HH6.out.ch hc7 (fun _ h _ => h) hf7)
          clear hz7 hf7 hc7 hgn hrt
          go_wp2_with (first | (go_at_call 62; refine HGn.out.mono ?_; rintro e w' ⟨rfl, rfl⟩) | (go_at_call 63; refine HRt.out.mono ?_; rintro e w' ⟨rfl, rfl⟩))
          go_loopw [84] (fun i wr => ∃ j : Nat, i = .int .i64 (j : Int) ∧ j ≤ m ∧ Hid (∃ p Q, PZ w wr pp dp p Q ∧ DrI p 30 3000 m j has ∧ HasAt wr w.heap.size Q (.slice ha m hcap) m has)) (fun i _ => 100 - (intOf i).toNat)
          case atStart => exact ⟨0, rfl, Nat.zero_le _, hid ⟨_, _, HZ7.out, HD0.out, HH7.out⟩⟩
          case round =>
            clear HZ HA HH HC HI
            obtain ⟨j, rfl, hj, HI⟩ := hrel
            obtain ⟨p, Qp, hz, hab, hh⟩ := HI.out
            have HZ := hid hz
            have HA := hid hab
            have HH := hid hh
            have HC := hid hz.base
            clear hz hab hh
            by_cases hlt : j < m
            · obtain ⟨x, HX⟩ : ∃ x, Hid (has[j]? = some x) := ⟨has[j]'(by rw [HM.out]; exact hlt), hid (List.getElem?_eq_getElem _)⟩
              obtain ⟨b, rfl, hc0, hc1, hblt⟩ := HH.out.get HX.out
              obtain ⟨hrd, p', hdr, hd2⟩ := HA.out.step hm12 HX.out
              obtain ⟨xn, xs⟩ := x
              dsimp only at hc0 hc1 hrd hdr
              have hw1 := (Ch.refl (fun _ => False) wr).alloc (.cells #[.int .i64 (xn : Int), .string xs] 96)
              have hz1 := HZ.out.ch hw1 (fun _ _ h => h) (fun _ _ h => h)
              have hh1 := HH.out.ch hw1 (fun _ h _ => h.elim) (Fresh.refl _ _)
              have hrz := read_z (xn : Int) _ hz1 HA.out.hp (by omega)
              rw [hrd] at hrz
              have HRZ := hid hrz
              have HH1 := hid hh1
              have HD2 := hid hd2
              have HDr := hid hdr
              have HQlt := hid (hz1.lt)
              have hnq : Hid (¬ Qp wr.heap.size) := hid (fun h => by have := (HZ.out.lt _ h).2; omega)
              have hsz := hw1.size
              clear hw1 hz1 hh1 hrz hrd hdr hd2 hsz
              go_wp2_with fail
              refine HRZ.out.mono ?_
              rintro e w8 ⟨rfl, Q8, hz8, hf8, hc8⟩
              have g0 := cell_ch2 (heap_new2 wr (.int .i64 (xn : Int)) (.string xs) 96).1 hc8 hnq.out
              have g1 := cell_ch2 (heap_new2 wr (.int .i64 (xn : Int)) (.string xs) 96).2 hc8 hnq.out
              have hdz := drop_z (xn : Int) w8 hz8
              rw [HDr.out] at hdz
              have HDZ := hid hdz
              have HH8 := hid (HH1.out.ch hc8 (fun _ h _ => h) hf8)
              clear hz8 hf8 hc8 hdz
              have hback := str_back xs
              go_wp2_with (go_at_call 55; refine (no3_any _ _).mono ?_; rintro e w' ⟨rfl, rfl⟩)
              refine HDZ.out.mono ?_
              rintro e w9 ⟨rfl, Q9, hz9, hf9, hc9⟩
              have HZ9 := hid hz9
              have HH9 := hid (HH8.out.ch hc9 (fun _ h _ => h) hf9)
              clear hz9 hf9 hc9
              go_wp2_with (go_at_call 55; refine (no3_any _ _).mono ?_; rintro e w' ⟨rfl, rfl⟩)
              go_roundw
              case rel => exact ⟨j + 1, by go_num, by omega, hid ⟨p', Q9, HZ9.out, HD2.out, HH9.out⟩⟩
              case measure => simp [intOf]; omega
            · obtain rfl : j = m := by omega
              obtain ⟨p', hc, hfree⟩ := HA.out.last
              have hcm := commit_z ⟨#[122]⟩ wr HZ.out HA.out.hp (by omega)
              rw [show (⟨#[122]⟩ : ByteArray).data.toList = [122] from rfl, hc] at hcm
              have HCM := hid hcm
              have HFree := hid hfree
              clear hcm hc hfree
              go_wp2_with fail
              refine HCM.out.mono ?_
              rintro e w8 ⟨rfl, Q8, hz8, hf8, hc8⟩
              have hfr := free_z w8 hz8
              rw [HFree.out] at hfr
              have HFR := hid hfr
              clear hz8 hf8 hc8 hfr
              have hsum : IntKind.i64.wrap (((28 - j : Nat) : Int) + (j : Int)) = 28 := by rw [wrap_id (by omega) (by omega)]; omega
              have hsum2 : ((30 - 2 - j + j : Nat) : Int) = 28 := by omega
              rw [hsum2] at HFR
              go_wp2_with (go_at_call 55; refine (no3_any _ _).mono ?_; rintro e w' ⟨rfl, rfl⟩)
              refine HFR.out.mono ?_
              rintro e w9 ⟨rfl, Q9, hz9, -, -⟩
              have HB9 := hid hz9.base
              clear hz9
              go_wp2_with fail
              go_ret
              exact ⟨rfl, HB9.out⟩

end Go.Proofs.Ytadhibemadgcoaa
