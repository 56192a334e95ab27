/- PagerPinned answers true. Conditions: the arguments are slices of strings. -/
import Derived.Test.YtadhibemadgcoaaPgZ
namespace Go.Proofs.Ytadhibemadgcoaa
open Go.RowKit

theorem HasOk.ne {d : Dk} {has : List (Nat × ByteArray)} (h : HasOk d has) (k : Nat) (hk : has.length + 2 ≤ k) : ∀ x ∈ has, (x.1 : Int) ≠ (k : Int) := by
  intro x hx
  obtain ⟨j, hj⟩ := List.getElem?_of_mem hx
  have h1 := (h j x hj).1
  have := (List.getElem?_eq_some_iff.1 hj).1
  omega

set_option maxRecDepth 20000 in
set_option maxHeartbeats 8000000 in
theorem pinned_any (la : Option Addr) (lcap : Nat) (l : List ByteArray) (ma : Option Addr) (mcap : Nat) (more : List ByteArray) (w : World)
    (hl : Strs w (.slice la l.length lcap) l) (hm : Strs w (.slice ma more.length mcap) more) :
    Calls Try.prog 16 #[.slice la l.length lcap, .slice ma more.length mcap] w fun e w' => e = .returned (.bool true) ∧ Ch (fun _ => False) w w' := by
  have HLl := hid hl
  have HMo := hid hm
  clear hl hm
  go_enter Try.func16, Try.ntmps16
  go_wp2_with fail
  refine (begun_any 20 la lcap l w (by omega) (by omega) HLl.out).mono ?_
  rintro e w1 ⟨dp, pp, Q, ha, hcap, p0, has, rfl, hz, hb, hh, -⟩
  have HZ := hid hz
  have HB := hid hb
  have HH := hid hh
  have hm12 := hb.len
  obtain ⟨m, HM⟩ : ∃ m, Hid (has.length = m) := ⟨_, hid rfl⟩
  rw [HM.out] at hm12 HH
  clear hz hb hh
  rw [HM.out]
  go_wp2_with fail
  refine (alive3 _).mono ?_
  rintro e w2 ⟨rfl, c2⟩
  have HZ2 := hid (HZ.out.ch c2 (fun _ _ h => h) (fun _ _ h => h))
  have HH2 := hid (HH.out.ch c2 (fun _ h _ => h.elim) (Fresh.refl _ _))
  have HB2 := hid HZ2.out.base
  clear c2
  by_cases hmo : 20 < more.length
  · go_wp2_with fail
    go_ret
    exact ⟨rfl, HB2.out⟩
  obtain ⟨F, hF⟩ : ∃ F : Nat, F + m = 18 := ⟨18 - m, by omega⟩
  have hfr := free_z w2 HZ2.out
  rw [HB.out.pages] at hfr
  have hfn : freeL ((0, 0) :: (0, 0) :: (List.replicate has.length (1, 0) ++ List.replicate (20 - 2 - has.length) (0, 0))) = F := by
    have := bPages_free 20 has.length; unfold bPages at this; rw [this, HM.out]; omega
  rw [hfn] at hfr
  have HF := hid hfr
  clear hfn hfr
  go_wp2_with fail
  refine HF.out.mono ?_
  rintro e w3 ⟨rfl, Q3, hz3, hf3, hc3⟩
  have hpn := pin_z w3 hz3 (by rw [HB.out.ops]; omega)
  rw [HB.out.gen] at hpn
  have HPn := hid hpn
  have HH3 := hid (HH2.out.ch hc3 (fun _ h _ => h) hf3)
  have hpd := HB.out.pin (by omega)
  rw [HM.out] at hpd
  have HPd := hid hpd
  clear hz3 hf3 hc3 HF hpn hpd
  go_wp2_with fail
  refine HPn.out.mono ?_
  rintro e w4 ⟨rfl, Q4, hz4, hf4, hc4⟩
  have HZ4 := hid hz4
  have HH4 := hid (HH3.out.ch hc4 (fun _ h _ => h) hf4)
  clear hz4 hf4 hc4 HPn
  go_wp2_with fail
  go_loopw [44] (fun i wr => ∃ j : Nat, i = .int .i64 (j : Int) ∧ j ≤ m ∧ Hid (∃ p Q, PZ w wr pp dp p Q ∧ PiD p 20 2000 m j has ∧ HasAt wr w.heap.size Q (.slice ha m hcap) m has)) (fun i _ => 100 - (intOf i).toNat)
  case atStart => exact ⟨0, rfl, Nat.zero_le _, hid ⟨_, _, HZ4.out, HPd.out, HH4.out⟩⟩
  case round =>
    obtain ⟨j, rfl, hj, HI⟩ := hrel
    obtain ⟨p, Qp, hz, hab, hh⟩ := HI.out
    have HZ := hid hz
    have HA := hid hab
    have HH := hid hh
    have HC := hid hz.base
    clear hz hab hh
    by_cases hlt : j < m
    · obtain ⟨x, HX⟩ : ∃ x, Hid (has[j]? = some x) := ⟨has[j]'(by rw [HM.out]; exact hlt), hid (List.getElem?_eq_getElem _)⟩
      obtain ⟨b, rfl, hc0, hc1, hblt⟩ := HH.out.get HX.out
      obtain ⟨p', hdr, hd2⟩ := HA.out.step HX.out
      obtain ⟨xn, xs⟩ := x
      dsimp only at hc0 hc1 hdr
      have hw1 := (Ch.refl (fun _ => False) wr).alloc (.cells #[.int .i64 (xn : Int), .string xs] 96)
      have hz1 := HZ.out.ch hw1 (fun _ _ h => h) (fun _ _ h => h)
      have hh1 := HH.out.ch hw1 (fun _ h _ => h.elim) (Fresh.refl _ _)
      have hdz := drop_z (xn : Int) _ hz1
      rw [hdr] at hdz
      have HDZ := hid hdz
      have HH1 := hid hh1
      have HD2 := hid hd2
      clear hw1 hz1 hh1 hdz hdr hd2
      go_wp2_with fail
      refine HDZ.out.mono ?_
      rintro e w9 ⟨rfl, Q9, hz9, hf9, hc9⟩
      have HZ9 := hid hz9
      have HH9 := hid (HH1.out.ch hc9 (fun _ h _ => h) hf9)
      clear hz9 hf9 hc9
      go_wp2_with (go_at_call 55; refine (no3_any _ _).mono ?_; rintro e w' ⟨rfl, rfl⟩)
      go_roundw
      case rel => exact ⟨j + 1, by go_num, by omega, hid ⟨p', Q9, HZ9.out, HD2.out, HH9.out⟩⟩
      case measure => simp [intOf]; omega
    · obtain rfl : j = m := by omega
      have HPi := hid HA.out.piI
      go_wp2_with fail
      go_loopw [12, 57] (fun pv i wr => ∃ k q : Nat, i = .int .i64 (k : Int) ∧ pv = .int .i64 (q : Int) ∧ k ≤ more.length ∧ q ≤ k ∧ Hid (∃ p Q, PZ w wr pp dp p Q ∧ PiI p 20 (2000 + 4 * k) j q k has ∧ HasAt wr w.heap.size Q (.slice ha j hcap) j has)) (fun _ i _ => 100 - (intOf i).toNat)
      case atStart => exact ⟨0, 0, rfl, rfl, Nat.zero_le _, Nat.le_refl _, hid ⟨_, _, HZ.out, HPi.out, HH.out⟩⟩
      case round =>
        clear HZ HA HH HC HI HPi
        obtain ⟨k, q, rfl, rfl, hk, hqk, HI⟩ := hrel
        obtain ⟨p, Qp, hz, hab, hh⟩ := HI.out
        have HZ := hid hz
        have HA := hid hab
        have HH := hid hh
        have HC := hid hz.base
        clear hz hab hh
        by_cases hlt : k < more.length
        · obtain ⟨x, HX⟩ : ∃ x, Hid (more[k]? = some x) := ⟨more[k]'hlt, hid (List.getElem?_eq_getElem _)⟩
          obtain ⟨b, off, rfl, hcell, hblt⟩ := (HMo.out.ch HC.out (fun _ _ h => h)).get HX.out
          obtain ⟨N, hN⟩ : ∃ N : Nat, (if 492 < (x.size : Int) then 492 else (x.size : Int)) = (N : Int) := ⟨min x.size 492, by split <;> omega⟩
          have hNx : (N : Int) ≤ (x.size : Int) := by split at hN <;> omega
          have HCs : Hid ((x.extract 0 N).size ≤ 492) := hid (by rw [ByteArray.size_extract]; split at hN <;> omega)
          have hpt0 := put_z 1 (x.extract 0 N) wr HZ.out HA.out.hp (by omega)
          by_cases hq : q < 20 - 2 - j
          · obtain ⟨p1, p2, k1, k2, k3, k4⟩ := HA.out.putOk hq (by omega) (x.extract 0 N).data.toList (by rw [size_toList]; exact HCs.out)
            rw [k1] at hpt0
            obtain ⟨M, HMq⟩ : ∃ M, Hid (j + q + 2 = M) := ⟨_, hid rfl⟩
            rw [HMq.out] at hpt0
            have hwo : wo has (M : Int) = has := wo_all (HA.out.ok.ne M (by rw [HM.out]; have := HMq.out; omega))
            have HPT := hid hpt0
            have K2 := hid k2
            have K3 := hid k3
            have K4 := hid (k4.up (show 2000 + 4 * k + 4 ≤ 2000 + 4 * (k + 1) by omega))
            have HWo := hid hwo
            clear hpt0 k1 k2 k3 k4 hwo
            go_wp2_with fail
            refine HPT.out.mono ?_
            rintro e w6 ⟨rfl, Q6, hz6, hf6, hc6⟩
            have HZ6 := hid hz6
            have HH6 := hid (HH.out.ch hc6 (fun _ h _ => h) hf6)
            clear hz6 hf6 hc6
            have hwt := without_any ha hcap j has (M : Int) w6 HH6.out (by omega)
            rw [HWo.out, HM.out] at hwt
            have HWt := hid hwt
            clear hwt
            go_wp2_with (go_at_call 55; refine (no3_any _ _).mono ?_; rintro e w' ⟨rfl, rfl⟩)
            refine HWt.out.mono ?_
            rintro e w7 ⟨a7, c7, rfl, -, hc7⟩
            have hz7 := HZ6.out.ch hc7 (fun _ _ h => h) (fun _ _ h => h)
            have HH7 := hid (HH6.out.ch hc7 (fun _ h _ => h.elim) (Fresh.refl _ _))
            have hcm := commit_z ⟨#[120]⟩ w7 hz7 K2.out (by omega)
            rw [show (⟨#[120]⟩ : ByteArray).data.toList = [120] from rfl, K3.out] at hcm
            have HCM := hid hcm
            clear hc7 hz7 hcm
            go_wp2_with fail
            refine HCM.out.mono ?_
            rintro e w8 ⟨rfl, Q8, hz8, hf8, hc8⟩
            have HZ8 := hid hz8
            have HH8 := hid (HH7.out.ch hc8 (fun _ h _ => h) hf8)
            clear hz8 hf8 hc8
            go_wp2_with (go_at_call 55; refine (no3_any _ _).mono ?_; rintro e w' ⟨rfl, rfl⟩)
            go_roundw
            case rel => exact ⟨k + 1, q + 1, by go_num, by go_num, by omega, by omega, hid ⟨p2, Q8, HZ8.out, K4.out, HH8.out⟩⟩
            case measure => simp [intOf]; omega
          · obtain ⟨p2, k1, k3, k4⟩ := HA.out.putFull hq (by omega) (x.extract 0 N).data.toList (by rw [size_toList]; exact HCs.out)
            rw [k1] at hpt0
            have HPT := hid hpt0
            have K3 := hid k3
            have K4 := hid (k4.up (show 2000 + 4 * k + 4 ≤ 2000 + 4 * (k + 1) by omega))
            clear hpt0 k1 k3 k4
            go_wp2_with fail
            refine HPT.out.mono ?_
            rintro e w6 ⟨rfl, Q6, hz6, hf6, hc6⟩
            have hcm := commit_z ⟨#[120]⟩ w6 hz6 HA.out.hp (by omega)
            rw [show (⟨#[120]⟩ : ByteArray).data.toList = [120] from rfl, K3.out] at hcm
            have HCM := hid hcm
            have HH6 := hid (HH.out.ch hc6 (fun _ h _ => h) hf6)
            clear hz6 hf6 hc6 hcm
            go_wp2_with (go_at_call 55; refine (no3_any _ _).mono ?_; rintro e w' ⟨rfl, rfl⟩)
            refine HCM.out.mono ?_
            rintro e w8 ⟨rfl, Q8, hz8, hf8, hc8⟩
            have HZ8 := hid hz8
            have HH8 := hid (HH6.out.ch hc8 (fun _ h _ => h) hf8)
            clear hz8 hf8 hc8
            go_wp2_with (go_at_call 55; refine (no3_any _ _).mono ?_; rintro e w' ⟨rfl, rfl⟩)
            go_roundw
            case rel => exact ⟨k + 1, q, by go_num, rfl, by omega, by omega, hid ⟨p2, Q8, HZ8.out, K4.out, HH8.out⟩⟩
            case measure => simp [intOf]; omega
        · obtain rfl : k = more.length := by omega
          go_wp2_with fail
          go_loopw [90] (fun i wr => ∃ t : Nat, i = .int .i64 (t : Int) ∧ t ≤ j ∧ Hid (∃ Q, PZ w wr pp dp p Q ∧ HasAt wr w.heap.size Q (.slice ha j hcap) j has)) (fun i _ => 100 - (intOf i).toNat)
          case atStart => exact ⟨0, rfl, Nat.zero_le _, hid ⟨_, HZ.out, HH.out⟩⟩
          case round =>
            clear HZ HH HC HI
            obtain ⟨t, rfl, ht, HI⟩ := hrel
            obtain ⟨Qp, hz, hh⟩ := HI.out
            have HZ := hid hz
            have HH := hid hh
            have HC := hid hz.base
            clear hz hh
            by_cases hlt : t < j
            · obtain ⟨x, HX⟩ : ∃ x, Hid (has[t]? = some x) := ⟨has[t]'(by rw [HM.out]; exact hlt), hid (List.getElem?_eq_getElem _)⟩
              obtain ⟨b, rfl, hc0, hc1, hblt⟩ := HH.out.get HX.out
              have hrd := HA.out.read hm12 HX.out
              obtain ⟨xn, xs⟩ := x
              dsimp only at hc0 hc1 hrd
              have hw1 := (Ch.refl (fun _ => False) wr).alloc (.cells #[.int .i64 (xn : Int), .string xs] 96)
              have hz1 := HZ.out.ch hw1 (fun _ _ h => h) (fun _ _ h => h)
              have hh1 := HH.out.ch hw1 (fun _ h _ => h.elim) (Fresh.refl _ _)
              have hrz := read_z (xn : Int) _ hz1 HA.out.hp (by omega)
              rw [hrd] at hrz
              have HRZ := hid hrz
              have HH1 := hid hh1
              have hnq : Hid (¬ Qp wr.heap.size) := hid (fun h => by have := (HZ.out.lt _ h).2; omega)
              clear hw1 hz1 hh1 hrz hrd
              go_wp2_with fail
              refine HRZ.out.mono ?_
              rintro e w8 ⟨rfl, Q8, hz8, hf8, hc8⟩
              have g0 := cell_ch2 (heap_new2 wr (.int .i64 (xn : Int)) (.string xs) 96).1 hc8 hnq.out
              have g1 := cell_ch2 (heap_new2 wr (.int .i64 (xn : Int)) (.string xs) 96).2 hc8 hnq.out
              have HZ8 := hid hz8
              have HH8 := hid (HH1.out.ch hc8 (fun _ h _ => h) hf8)
              clear hz8 hf8 hc8
              have hback := str_back xs
              go_wp2_with (go_at_call 55; refine (no3_any _ _).mono ?_; rintro e w' ⟨rfl, rfl⟩)
              go_roundw
              case rel => exact ⟨t + 1, by go_num, by omega, hid ⟨Q8, HZ8.out, HH8.out⟩⟩
              case measure => simp [intOf]; omega
            · obtain rfl : t = j := by omega
              have hqi := HA.out.qi
              have hroom := HA.out.room
              obtain ⟨G, hG⟩ : ∃ G : Nat, G + q = F := ⟨F - q, by omega⟩
              obtain ⟨K, hK⟩ : ∃ K : Nat, G + t = K := ⟨_, rfl⟩
              have hfr := free_z wr HZ.out
              rw [HA.out.free, show 20 - 2 - t - q = G by omega] at hfr
              obtain ⟨p2, p3, c1, c2, c3, c4, c5, c6⟩ := HA.out.last (by omega)
              rw [show 20 - 2 - t - q + t = K by omega] at c5
              have hsub : IntKind.i64.wrap ((F : Int) - (q : Int)) = (G : Int) := by rw [wrap_id (by omega) (by omega)]; omega
              have hadd : IntKind.i64.wrap ((G : Int) + (t : Int)) = (K : Int) := by rw [wrap_id (by omega) (by omega)]; omega
              have hmin : (if more.length < F then (more.length : Int) else (F : Int)) = (q : Int) := by split <;> omega
              have HFr := hid hfr
              have C1 := hid c1
              have C2 := hid c2
              have C3 := hid c3
              have C4 := hid c4
              have C5 := hid c5
              have C6 := hid c6
              clear hfr c1 c2 c3 c4 c5 c6 hqi hroom hG hK
              go_wp2_with fail
              refine HFr.out.mono ?_
              rintro e w8 ⟨rfl, Q8, hz8, hf8, hc8⟩
              have hcm := commit_z ⟨#[121]⟩ w8 hz8 HA.out.hp (by omega)
              rw [show (⟨#[121]⟩ : ByteArray).data.toList = [121] from rfl, C1.out] at hcm
              have HCM := hid hcm
              clear hz8 hf8 hc8 hcm
              go_wp2_with fail
              refine HCM.out.mono ?_
              rintro e w9 ⟨rfl, Q9, hz9, -, -⟩
              have hup := unpin_z 2 w9 hz9 (by rw [C2.out]; omega) (int_wf (by omega) (by omega))
              rw [C3.out] at hup
              have HUp := hid hup
              clear hz9 hup
              go_wp2_with (go_at_call 55; refine (no3_any _ _).mono ?_; rintro e w' ⟨rfl, rfl⟩)
              refine HUp.out.mono ?_
              rintro e w10 ⟨rfl, Q10, hz10, -, -⟩
              have hfr := free_z w10 hz10
              rw [C5.out] at hfr
              have HFr2 := hid hfr
              clear hz10 hfr
              go_wp2_with (go_at_call 55; refine (no3_any _ _).mono ?_; rintro e w' ⟨rfl, rfl⟩)
              refine HFr2.out.mono ?_
              rintro e w11 ⟨rfl, Q11, hz11, -, -⟩
              have hup := unpin_z 2 w11 hz11 (by rw [C4.out]; omega) (int_wf (by omega) (by omega))
              rw [C6.out] at hup
              have HUp2 := hid hup
              clear hz11 hup
              go_wp2_with fail
              refine HUp2.out.mono ?_
              rintro e w12 ⟨rfl, Q12, hz12, -, -⟩
              have HB12 := hid hz12.base
              clear hz12
              go_wp2_with (go_at_call 55; refine (no3_any _ _).mono ?_; rintro e w' ⟨rfl, rfl⟩)
              go_ret
              exact ⟨rfl, HB12.out⟩

end Go.Proofs.Ytadhibemadgcoaa
