/- begun, without. Conditions: as each lemma says. -/
import Derived.Test.YtadhibemadgcoaaPgU
import Derived.BigQuiet
namespace Go.Proofs.Ytadhibemadgcoaa
open Go.RowKit

theorem drewN_ch (w : World) (n : Nat) : Ch (fun _ => False) w (w.drewN n) := ⟨rfl, rfl, rfl, Nat.le_refl _, fun _ _ _ => rfl⟩
theorem put_ops (p : Pg) (kind : Int) (s : List UInt8) : (putP p kind s).2.2.ops = p.ops := by
  unfold putP; split
  · rfl
  · split
    · rfl
    · split
      · rfl
      · split <;> rfl
theorem heap_new2 (w : World) (x y : Value) (e : TypeId) : (w.alloc (.cells #[x, y] e)).cell? ⟨w.heap.size, 0, none⟩ = some x ∧ (w.alloc (.cells #[x, y] e)).cell? ⟨w.heap.size, 1, none⟩ = some y := by
  constructor <;> (rw [cell_blk (heap_new _)]; rfl)
/-- What begun answers. -/
def BegunPost (w : World) (n : Nat) (l : List ByteArray) (e : Ending) (w' : World) : Prop :=
  ∃ dp pp Q ha hcap p has, e = .returned (.tuple #[.pointer (some ⟨dp, 0, none⟩), .pointer (some ⟨pp, 0, none⟩), .slice ha has.length hcap]) ∧ PZ w w' pp dp p Q ∧ Begun p n has ∧ HasAt w' w.heap.size Q (.slice ha has.length hcap) has.length has ∧ has.length = min l.length 12

set_option maxRecDepth 20000 in
set_option maxHeartbeats 4000000 in
theorem begun_any (n : Nat) (a : Option Addr) (cap : Nat) (l : List ByteArray) (w : World) (hn : 14 ≤ n) (hn2 : n ≤ 60) (h : Strs w (.slice a l.length cap) l) :
    Calls Try.prog 60 #[.int .i64 n, .slice a l.length cap] w (BegunPost w n l) := by
  obtain ⟨d, k1, k2, k3, k4, k5⟩ := room_begin n (by omega) (by omega)
  have hnew := new_z n w (Ch.refl _ w) (by omega) (by omega)
  have hl0 := Hl.new n (by omega) (by omega)
  obtain ⟨D0, HD0⟩ : ∃ d, Hid (({ L := List.replicate n (zeros 512), wait := [], steps := 0, fuse := -1, gone := false } : Dk) = d) := ⟨_, hid rfl⟩
  rw [HD0.out] at hnew hl0 k1
  obtain ⟨P0, HP0⟩ : ∃ p, Hid (openP d = p) := ⟨_, hid rfl⟩
  have ho0 : (openP d).ops = 0 := rfl
  rw [HP0.out] at k4 k5 ho0
  have HL0 := hid hl0
  have K1 := hid k1
  have K2 := hid k2
  have K3 := hid k3
  have K4 := hid k4
  have HO0 := hid ho0
  have HN := hid hnew
  have HA := hid h
  clear k1 k2 k3 k4 k5 hnew hl0 ho0 h
  go_enter Try.func60, Try.ntmps60
  go_wp2_with fail
  refine HN.out.mono ?_
  rintro e w1 ⟨dp, rfl, hz⟩
  have hfm := format_z w1 hz HL0.out (by omega) (by omega)
  rw [K1.out] at hfm
  have HFM := hid hfm
  clear hz hfm
  go_wp2_with fail
  refine HFM.out.mono ?_
  rintro e w2 ⟨rfl, hz⟩
  have hop := open_z w2 hz K3.out (by omega) K2.out
  rw [HP0.out] at hop
  have HOP := hid hop
  clear hz hop
  go_wp2_with (go_at_call 55; refine (no3_any _ _).mono ?_; rintro e w' ⟨rfl, rfl⟩)
  refine HOP.out.mono ?_
  rintro e w3 ⟨pp, Q, rfl, hz⟩
  have HZ := hid hz
  clear hz
  go_wp2_with (go_at_call 55; refine (no3_any _ _).mono ?_; rintro e w' ⟨rfl, rfl⟩)
  go_loopw [11, 12] (fun hv i wr => ∃ j : Nat, i = .int .i64 (j : Int) ∧ j ≤ l.length ∧ j ≤ 12 ∧ (∃ a cap, hv = .slice a j cap) ∧ Hid (∃ p Q has, PZ w wr pp dp p Q ∧ RoomAt p n j ∧ p.ops = 0 ∧ HasAt wr w.heap.size Q hv j has ∧ HasOk p.d has)) (fun _ i _ => 100 - (intOf i).toNat)
  case atStart => exact ⟨0, rfl, Nat.zero_le _, Nat.zero_le _, ⟨none, 0, rfl⟩, hid ⟨_, _, [], HZ.out, K4.out, HO0.out, HasAt.start _ _ _, fun j x hx => by simp at hx⟩⟩
  case round =>
    obtain ⟨j, rfl, hj, hj12, ⟨ha, hcap, rfl⟩, HI⟩ := hrel
    obtain ⟨p, Qp, has, hz, hr, ho, hh, hok⟩ := HI.out
    have HZ := hid hz
    have HR := hid hr
    have HO := hid ho
    have HH := hid hh
    have HOk := hid hok
    have HC := hid hz.base
    clear hz hr ho hh hok
    by_cases hlt : j < l.length
    · by_cases h12 : j < 12
      · obtain ⟨x, HX⟩ : ∃ x, Hid (l[j]? = some x) := ⟨l[j]'hlt, hid (List.getElem?_eq_getElem _)⟩
        obtain ⟨b, off, rfl, hcell, hblt⟩ := (HA.out.ch HC.out (fun _ _ h => h)).get HX.out
        go_wp2_with fail
        go_quiet (fail)
        have hcut : x.extract 0 (if 492 < (x.size : Int) then 492 else (x.size : Int)).toNat = cutB x := by
          unfold cutB
          congr 1
          split <;> omega
        obtain ⟨c, HCc⟩ : ∃ c, Hid (cutB x = c) := ⟨_, hid rfl⟩
        rw [hcut, HCc.out]
        generalize (if 492 < (x.size : Int) then 492 else (x.size : Int)) = zz
        have hcs : c.size ≤ 492 := by rw [← HCc.out]; exact cutB_size x
        clear hcut
        obtain ⟨p', hp1, hp2, hp3⟩ := HR.out.put (by omega) j (by omega) c.data.toList (by rw [size_toList]; exact hcs)
        have hzq := HZ.out.ch (drewN_ch wr nq) (fun _ _ h => h) (fun _ _ h => h)
        have hhq := HH.out.ch (drewN_ch wr nq) (fun _ h _ => h.elim) (Fresh.refl _ _)
        obtain ⟨wq, hwq⟩ : ∃ wq, Hid (wr.drewN nq = wq) := ⟨_, hid rfl⟩
        rw [hwq.out] at hzq hhq ⊢
        have hpt := put_z (j : Int) c wq hzq HR.out.hp (by omega)
        rw [hp1] at hpt
        have HPT := hid hpt
        have HR2 := hid hp2
        have HP3 := hid hp3
        have HH2 := hid hhq
        have HE : Hid (p'.ops = 0) := hid (by
          have := congrArg (fun z => z.2.2.ops) hp1
          simp only at this
          rw [← this, put_ops, HO.out])
        have HCs := hid hcs
        clear hpt hp1 hp2 hp3 hzq hhq hcell hcs
        go_wp2_with fail
        refine HPT.out.mono ?_
        rintro e w6 ⟨rfl, Q6, hz6, hf6, hc6⟩
        have HZ6 := hid hz6
        have hh6 := HH2.out.ch hc6 (fun _ h _ => h) hf6
        have hg := heap_new2 w6 (.int .i64 ((j + 2 : Nat) : Int)) (.string c) 96
        have hz7 := hz6.ch ((Ch.refl (fun _ => False) w6).alloc (.cells #[.int .i64 ((j + 2 : Nat) : Int), .string c] 96)) (fun _ _ h => h) (fun _ _ h => h)
        have hh7 := hh6.ch ((Ch.refl (fun _ => False) w6).alloc (.cells #[.int .i64 ((j + 2 : Nat) : Int), .string c] 96)) (fun _ h _ => h.elim) (Fresh.refl _ _)
        obtain ⟨v', w8, hrun, hh8, hc8⟩ := hh7.snoc (fun k hk => (hz7.lt k hk).2) (by omega) (by have := hz7.base.size; omega) (j + 2, c) w6.heap.size hg.1 hg.2 91 1
        have HZ7 := hid hz7
        have hnb : ∀ k, (Value.slice ha j hcap).ownBlock = some k → ¬ Q6 k ∧ ¬ k < w.heap.size := fun k hk => ⟨hh7.2.2 k hk, by have := (hh7.1.lt k hk).1; omega⟩
        have hz8 := hz7.ch hc8 (fun k hQ hk => (hnb k hk).1 hQ) (fun k hlt hk => (hnb k hk).2 hlt)
        obtain ⟨g, gcap, rfl⟩ := hh8.form
        have hlen : has.length = j := HH.out.2.1
        have hok8 : HasOk p'.d (has ++ [(j + 2, c)]) := by
          have := HOk.out.snoc (d' := p'.d) c HCs.out (by rw [hlen]; exact HP3.out)
          rw [hlen] at this; exact this
        have HZ8 := hid hz8
        have HH8 := hid hh8
        have HOk8 := hid hok8
        have HRun := hid hrun
        clear hg hz6 hf6 hc6 hh6 hz7 hh7 hrun hh8 hc8 hnb hz8 hlen hok8 hwq
        go_wp2_with (first | (go_at_call 55; refine (no3_any _ _).mono ?_; rintro e w' ⟨rfl, rfl⟩) | (at_builtin; refine wpList_append_run rfl (.tmp 68) (.tmp 72) 91 91 rfl _ _ HRun.out ?_))
        go_roundw
        case rel => exact ⟨j + 1, by go_num, by omega, by omega, ⟨g, gcap, by go_num⟩, hid ⟨p', Q6, _, HZ8.out, HR2.out, HE.out, HH8.out, HOk8.out⟩⟩
        case measure => simp [intOf]; omega
      · obtain rfl : j = 12 := by omega
        have hl12 : has.length = 12 := HH.out.2.1
        obtain ⟨p', hp1, hp2⟩ := RoomAt.begun (has := has) (by rw [hl12]; exact HR.out) HO.out (by omega) (by omega) HOk.out
        have hcm := commit_z ⟨#[111, 108, 100]⟩ wr HZ.out HR.out.hp (by omega)
        rw [show (⟨#[111, 108, 100]⟩ : ByteArray).data.toList = [111, 108, 100] from rfl, hp1] at hcm
        have HCM := hid hcm
        have HB := hid hp2
        have HL := hid hl12
        have hmin : has.length = min l.length 12 := by omega
        have HMin := hid hmin
        clear hcm hp1 hp2 hl12 hmin
        go_wp2_with fail
        refine HCM.out.mono ?_
        rintro e w6 ⟨rfl, Q6, hz6, hf6, hc6⟩
        have HZ6 := hid hz6
        have HH6 := hid (HH.out.ch hc6 (fun _ h _ => h) hf6)
        clear hz6 hf6 hc6
        go_wp2_with (go_at_call 55; refine (no3_any _ _).mono ?_; rintro e w' ⟨rfl, rfl⟩)
        go_ret3
        refine ⟨dp, pp, Q6, ha, hcap, p', has, by rw [HL.out]; rfl, HZ6.out, HB.out, ?_, HMin.out⟩
        rw [HL.out]; exact HH6.out
    · obtain rfl : j = l.length := by omega
      have hl12 : has.length = l.length := HH.out.2.1
      obtain ⟨p', hp1, hp2⟩ := RoomAt.begun (has := has) (by rw [hl12]; exact HR.out) HO.out (by omega) (by omega) HOk.out
      have hcm := commit_z ⟨#[111, 108, 100]⟩ wr HZ.out HR.out.hp (by omega)
      rw [show (⟨#[111, 108, 100]⟩ : ByteArray).data.toList = [111, 108, 100] from rfl, hp1] at hcm
      have HCM := hid hcm
      have HB := hid hp2
      have HL := hid hl12
      have hmin : has.length = min l.length 12 := by omega
      have HMin := hid hmin
      clear hcm hp1 hp2 hl12 hmin
      go_wp2_with fail
      refine HCM.out.mono ?_
      rintro e w6 ⟨rfl, Q6, hz6, hf6, hc6⟩
      have HZ6 := hid hz6
      have HH6 := hid (HH.out.ch hc6 (fun _ h _ => h) hf6)
      clear hz6 hf6 hc6
      go_wp2_with (go_at_call 55; refine (no3_any _ _).mono ?_; rintro e w' ⟨rfl, rfl⟩)
      go_ret3
      refine ⟨dp, pp, Q6, ha, hcap, p', has, by rw [HL.out]; rfl, HZ6.out, HB.out, ?_, HMin.out⟩
      rw [HL.out]; exact HH6.out

end Go.Proofs.Ytadhibemadgcoaa
