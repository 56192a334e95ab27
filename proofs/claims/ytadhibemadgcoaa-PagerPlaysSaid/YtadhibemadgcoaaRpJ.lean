/- The reference's pager: Open. Conditions: as each theorem says. -/
import Derived.Test.YtadhibemadgcoaaRpI
namespace Go.Proofs.Ytadhibemadgcoaa
open Go.RowKit

/-- A reference's disk, its blocks Q new since w0. -/
def RQ (w0 w : World) (rq : Nat) (d : Dk) (Q : Nat → Prop) : Prop := ∃ M, RAt w rq d M ∧ (∀ k, M k → Q k) ∧ (∀ k, Q k → w0.heap.size ≤ k ∧ k < w.heap.size) ∧ Ch (fun _ => False) w0 w
theorem made_ints (n : Nat) : madeCells #[Value.int .i64 0] n = iV (List.replicate n 0) := by
  apply Array.ext'
  simp [madeCells, iV, List.map_replicate, List.eq_replicate_iff, Nat.mod_one]
theorem make_ints (n : Nat) (hn : n ≤ 4096) (w : World) : (Instr.makeSlice 90 (.int .i64 (n : Int)) (.int .i64 (n : Int))).run Try.prog w = .ok (.slice (some ⟨w.heap.size, 0, none⟩) n n) (w.alloc (.cells (iV (List.replicate n 0)) 3)) := by
  have h := run_make_n (P := Try.prog) 90 3 (.int .i64 0) 8 Try.underlying90 Try.info3 rfl n (by omega) (by omega) w
  rw [made_ints] at h
  exact h
/-- A reference's pager that was made just now. -/
theorem RZ.fresh {w0 w W : World} {rq n ib fb : Nat} {d : Dk} {Q : Nat → Prop} (h : RQ w0 w rq d Q) (hn : d.L.length = n) (h4 : 4 ≤ n) (n2 : n ≤ 4096) (hb : (ib = w.heap.size ∧ fb = w.heap.size + 1) ∨ (ib = w.heap.size + 1 ∧ fb = w.heap.size))
    (hW : W = (((w.alloc (.cells (iV (List.replicate n 0)) 3)).alloc (.cells (iV (List.replicate n 0)) 3)).alloc (.cells #[.pointer (some ⟨rq, 0, none⟩), .int .i64 0, .string ⟨#[]⟩, .slice (some ⟨ib, 0, none⟩) n n, .slice (some ⟨fb, 0, none⟩) n n, .slice none 0 0, .bool false] 116)).drew) :
    RZ w0 W (w.heap.size + 1 + 1) rq (newP d (accR d 0)) (fun k => Q k ∨ (w.heap.size ≤ k ∧ k < w.heap.size + 3)) ∧ Ch (fun _ => False) w W := by
  obtain ⟨M, hD, hMQ, hQl, hbase⟩ := h
  have hc : Ch (fun _ => False) w W := by rw [hW]; exact ((((Ch.refl _ w).alloc _).alloc _).alloc _).drew
  have hz1 : (w.alloc (.cells (iV (List.replicate n 0)) 3)).heap.size = w.heap.size + 1 := World.size_alloc _ _
  have hz2 : ((w.alloc (.cells (iV (List.replicate n 0)) 3)).alloc (.cells (iV (List.replicate n 0)) 3)).heap.size = w.heap.size + 1 + 1 := by rw [World.size_alloc, hz1]
  have hz3 : W.heap.size = w.heap.size + 3 := by
    rw [hW]
    show (((w.alloc (.cells (iV (List.replicate n 0)) 3)).alloc (.cells (iV (List.replicate n 0)) 3)).alloc _).heap.size = _
    rw [World.size_alloc, hz2]
  have k0 : W.heap[w.heap.size]? = some (.cells (iV (List.replicate n 0)) 3 (0, 0)) := by
    rw [hW]; exact heap_drew (heap_old (heap_old (heap_new _) _) _)
  have k1 : W.heap[w.heap.size + 1]? = some (.cells (iV (List.replicate n 0)) 3 (0, 0)) := by
    have := heap_new (w := w.alloc (.cells (iV (List.replicate n 0)) 3)) (.cells (iV (List.replicate n 0)) 3)
    rw [hz1] at this
    rw [hW]; exact heap_drew (heap_old this _)
  have k2 : W.heap[w.heap.size + 1 + 1]? = some (.cells #[.pointer (some ⟨rq, 0, none⟩), .int .i64 0, .string ⟨#[]⟩, .slice (some ⟨ib, 0, none⟩) n n, .slice (some ⟨fb, 0, none⟩) n n, .slice none 0 0, .bool false] 116 (0, 0)) := by
    have := heap_new (w := (w.alloc (.cells (iV (List.replicate n 0)) 3)).alloc (.cells (iV (List.replicate n 0)) 3)) (.cells #[.pointer (some ⟨rq, 0, none⟩), .int .i64 0, .string ⟨#[]⟩, .slice (some ⟨ib, 0, none⟩) n n, .slice (some ⟨fb, 0, none⟩) n n, .slice none 0 0, .bool false] 116)
    rw [hz2] at this
    rw [hW]; exact heap_drew this
  have e3 : (newP d (accR d 0)).pages = List.replicate n (0, 0) := by show List.replicate d.L.length (0, 0) = _; rw [hn]
  have e4 : (newP d (accR d 0)).pages.length = n := by rw [e3, List.length_replicate]
  have hi : W.heap[ib]? = some (.cells (iV (List.replicate n 0)) 3 (0, 0)) := by
    rcases hb with ⟨h, _⟩ | ⟨h, _⟩
    · rw [h]; exact k0
    · rw [h]; exact k1
  have hf : W.heap[fb]? = some (.cells (iV (List.replicate n 0)) 3 (0, 0)) := by
    rcases hb with ⟨_, h⟩ | ⟨_, h⟩
    · rw [h]; exact k1
    · rw [h]; exact k0
  have hM : ∀ k, M k → k < w.heap.size := hD.lt
  have hrep : ∀ (i : Nat) (x : Nat × Nat), (newP d (accR d 0)).pages[i]? = some x → x = (0, 0) := fun i x hx => by
    have := List.mem_of_getElem? hx
    rw [e3] at this
    exact (List.mem_replicate.1 this).2
  refine ⟨⟨ib, fb, .slice none 0 0, List.replicate n 0, M, ⟨⟨by rw [e4]; omega, by rw [e4]; exact n2, by simp [newP, accR], fun x hx => ?_, by simp [newP], by rw [e4]; exact k2, ?_, hf, by rw [e4, List.length_replicate], fun i x hx h4 => ?_, fun i x _ hx => ?_, ⟨rfl, .inl ⟨rfl, rfl⟩⟩, by omega, by simp [Value.ownBlock], by simp [Value.ownBlock]⟩, hD.ch hc (fun _ _ h => h), by rw [e4]; exact hn.symm, .inr (by omega), .inr (by omega), .inr (by omega), (fun k hk => by cases hk), fun k hk => .inl (hMQ k hk), (fun hm => by have := hM _ hm; omega), (fun hm => by have := hM _ hm; omega), (fun hm => by have := hM _ hm; omega), (fun k hk => by cases hk), fun k hk => ?_, hbase.trans hc⟩⟩, hc⟩
  · obtain ⟨i, hi⟩ := List.getElem?_of_mem hx
    rw [hrep i x hi]; simp
  · rw [e3, hi]
    simp [isL, List.map_replicate]
  · rw [hrep i x hx] at h4; cases h4
  · rw [hrep i x hx]
  · have := hbase.size
    rw [hz3]
    rcases hk with hk | hk
    · have := hQl k hk; omega
    · omega

def ROpenPost (w0 w : World) (rq : Nat) (d : Dk) (Q : Nat → Prop) (e : Ending) (w' : World) : Prop :=
  Ch (fun _ => False) w w' ∧ ((openE d ≠ 0 ∧ e = .returned (.tuple #[.pointer none, .int .i64 (openE d : Nat)])) ∨
    (openE d = 0 ∧ ∃ rp Q', e = .returned (.tuple #[.pointer (some ⟨rp, 0, none⟩), .int .i64 0]) ∧ RZ w0 w' rp rq (openP d) Q' ∧ Fresh w Q Q'))

set_option maxRecDepth 20000 in
set_option maxHeartbeats 4000000 in
theorem ropen_z {w0 : World} {rq : Nat} {d : Dk} {Q : Nat → Prop} (w : World) (h : RQ w0 w rq d Q) (hwt : d.wait.length ≤ 1000000) :
    Calls Try.prog 102 #[.pointer (some ⟨rq, 0, none⟩)] w (ROpenPost w0 w rq d Q) := by
  obtain ⟨M, hD, hMQ, hQl, hbase⟩ := h
  have HRq := hid (show RQ w0 w rq d Q from ⟨M, hD, hMQ, hQl, hbase⟩)
  have HD := hid hD
  have HMQ := hid hMQ
  have HQl := hid hQl
  have HBs := hid hbase
  obtain ⟨Lv, Wv, h1, hq, h3, h4, h5⟩ := hD
  obtain ⟨la, lc, rfl⟩ := owns_form h1.hL
  have c0 := cell_blk h1.hp 0
  simp at c0
  have n2 := h1.n2
  have hrqz := h5 _ hq
  obtain ⟨n, HN⟩ : ∃ n, Hid (d.L.length = n) := ⟨_, hid rfl⟩
  rw [HN.out] at c0 n2
  clear h1 hq h3 h4 h5 hMQ hQl hbase
  by_cases h4 : n < 4
  · have fin : Hid (ROpenPost w0 w rq d Q (.returned (.tuple #[.pointer none, .int .i64 2])) w) := hid (by
      have e : openE d = 2 := by unfold openE; rw [if_pos (by rw [HN.out]; exact h4)]
      exact ⟨Ch.refl _ _, .inl ⟨by rw [e]; simp, by rw [e]; rfl⟩⟩)
    have h4i : (n : Int) < 4 := by omega
    clear h4
    go_enter Try.func102, Try.ntmps102
    go_wp2_with fail
    go_ret2
    exact fin.out
  have h4i : ¬ (n : Int) < 4 := by omega
  have H4 := hid h4
  clear h4
  obtain ⟨IV, HIV⟩ : ∃ IV, Hid (iV (List.replicate n 0) = IV) := ⟨_, hid rfl⟩
  have hm1 := make_ints n n2 w.drew
  have hm2 := make_ints n n2 (w.alloc (.cells IV 3)).drew
  rw [HIV.out] at hm1 hm2
  go_enter Try.func102, Try.ntmps102
  go_wp2_with fail
  go_region_law (fail)
  all_goals (
    clear hm1 hm2 c0 h4i
    obtain ⟨Q3, hQ3⟩ : ∃ Q3 : Nat → Prop, Q3 = fun k => Q k ∨ (w.heap.size ≤ k ∧ k < w.heap.size + 3) := ⟨_, rfl⟩
    obtain ⟨rp, hrp⟩ : ∃ rp, rp = w.heap.size + 1 + 1 := ⟨_, rfl⟩
    have HFr : Hid (Fresh w Q Q3) := hid (by rw [hQ3]; exact fun k hk => hk.imp id (fun h => h.1))
    have HA : Hid (∀ ib fb W, ((ib = w.heap.size ∧ fb = w.heap.size + 1) ∨ (ib = w.heap.size + 1 ∧ fb = w.heap.size)) → W = (((w.alloc (.cells IV 3)).alloc (.cells IV 3)).alloc (.cells #[.pointer (some ⟨rq, 0, none⟩), .int .i64 0, .string ⟨#[]⟩, .slice (some ⟨ib, 0, none⟩) n n, .slice (some ⟨fb, 0, none⟩) n n, .slice none 0 0, .bool false] 116)).drew →
        RZ w0 W rp rq (newP d (accR d 0)) Q3 ∧ Ch (fun _ => False) w W) := hid (fun ib fb W hb hW => by
      rw [← HIV.out] at hW
      rw [hQ3, hrp]
      exact RZ.fresh HRq.out HN.out (by have := H4.out; omega) n2 hb hW)
    have HRp := hid hrp
    clear hQ3 hrp
    go_wp2_with fail
    rw [← HRp.out]
    go_loopw [5] (fun i wr => ∃ j : Nat, i = .int .i64 (j : Int) ∧ j ≤ 2 ∧ Hid (RZ w0 wr rp rq (newP d (accR d j)) Q3 ∧ Ch (fun _ => False) w wr ∧ (0 < j → ¬ d.gone = true))) (fun i _ => 10 - (intOf i).toNat)
    case atStart =>
      refine ⟨0, rfl, by omega, hid ?_⟩
      first
        | exact ⟨(HA.out _ _ _ (.inl ⟨rfl, rfl⟩) rfl).1, (HA.out _ _ _ (.inl ⟨rfl, rfl⟩) rfl).2, fun h => by omega⟩
        | exact ⟨(HA.out _ _ _ (.inr ⟨rfl, rfl⟩) rfl).1, (HA.out _ _ _ (.inr ⟨rfl, rfl⟩) rfl).2, fun h => by omega⟩
    case round =>
      clear HA
      obtain ⟨j, rfl, hj, HI⟩ := hrel
      obtain ⟨hr, hc, hg⟩ := HI.out
      have HR := hid hr
      have HC := hid hc
      have HG := hid hg
      clear hr hc hg HI
      by_cases hlt : j < 2
      · have hjr : 0 ≤ (j : Int) ∧ (j : Int) < d.L.length := by rw [HN.out]; have := H4.out; omega
        have HJr := hid hjr
        have hrd := rdread_any (j : Int) wr (HD.out.ch HC.out (fun _ _ h => h)) hwt
        by_cases hgn : d.gone = true
        · have e9 : readD d (j : Int) = (9, []) := by unfold readD; rw [if_neg (fun h => h hjr), if_pos hgn]
          rw [e9] at hrd
          have fin : Hid (ROpenPost w0 w rq d Q (.returned (.tuple #[.pointer none, .int .i64 9])) wr) := hid (by
            have e : openE d = 9 := by unfold openE; rw [if_neg (by rw [HN.out]; exact H4.out), if_pos hgn]
            exact ⟨HC.out, .inl ⟨by rw [e]; simp, by rw [e]; rfl⟩⟩)
          unfold strV at hrd
          have HRd := hid hrd
          clear hrd e9 hgn hjr
          go_wp2_with (go_at_call 92; refine HRd.out.mono ?_; rintro e w' ⟨rfl, rfl⟩)
          go_ret2
          exact fin.out
        · obtain ⟨B, HB⟩ : ∃ B, Hid ((readD d (j : Int)).2 = B) := ⟨_, hid rfl⟩
          have e0 : (readD d (j : Int)).1 = 0 := by unfold readD; rw [if_neg (fun h => h hjr), if_neg hgn]
          rw [e0, HB.out] at hrd
          unfold strV at hrd
          have HRd := hid hrd
          have HGn := hid hgn
          have HBl : Hid (B.length ≤ 140737488355328) := hid (by rw [← HB.out]; exact read_size HD.out _)
          have HAcc : Hid (accR d (j + 1) = pickR j B (accR d j)) := hid (by rw [← HB.out]; rfl)
          have ha := accR_le d j
          obtain ⟨a, HAa⟩ : ∃ a, Hid (accR d j = a) := ⟨_, hid rfl⟩
          rw [HAa.out] at ha HR HAcc
          have HOp := hid (rrootopen_any ⟨B.toArray⟩ wr (by rw [← size_toList]; exact HBl.out))
          obtain ⟨S, HS⟩ : ∃ S, Hid ((⟨B.toArray⟩ : ByteArray) = S) := ⟨_, hid rfl⟩
          rw [HS.out] at HRd HOp
          have HSB : Hid (S.data.toList = B) := hid (by rw [← HS.out])
          rw [HSB.out] at HOp
          clear hrd e0 hgn hjr
          go_wp2_with (go_at_call 92; refine HRd.out.mono ?_; rintro e w' ⟨rfl, rfl⟩)
          refine HOp.out.mono ?_
          rintro e w5 ⟨rfl, c5⟩
          have HC5 := hid (HC.out.trans c5)
          have HR5 := hid (HR.out.ch c5 (fun _ _ h => h) (fun _ _ h => h))
          clear c5
          cases hrt : rootL B with
          | none =>
            have HN5 : Hid (RZ w0 w5 rp rq (newP d (accR d (j + 1))) Q3) := hid (by rw [HAcc.out, show pickR j B a = a by unfold pickR; rw [hrt]]; exact HR5.out)
            unfold rootV
            clear hrt
            go_wp2_with fail
            go_roundw
            case rel => exact ⟨j + 1, by go_num, by omega, hid ⟨HN5.out, HC5.out, fun _ => HGn.out⟩⟩
            case measure => simp [intOf]; omega
          | some y =>
            obtain ⟨g, s⟩ := y
            have hgb := rootL_le hrt
            obtain ⟨ib, fb, Pv, F, M2, hx⟩ := HR5.out
            have HX5 := hid hx
            have c1 := cell_blk hx.inn.hp 1
            have c2 := cell_blk hx.inn.hp 2
            have f1 := frozen_blk hx.inn.hp 1
            have f2 := frozen_blk hx.inn.hp 2
            have hppz := blk_lt hx.inn.hp
            simp [newP] at c1 c2
            clear hx
            by_cases hp : g % 2 = j
            · have hpb : ((g : Int) % 2 == (j : Int)) = true := by rw [beq_iff_eq]; omega
              by_cases hgt : (a.1 : Int) < (g : Int)
              · have HN5 : Hid (∀ W, W = (w5.setCell ⟨rp, 1, none⟩ (.int .i64 (g : Int))).setCell ⟨rp, 2, none⟩ (.string ⟨s.toArray⟩) → RZ w0 W rp rq (newP d (accR d (j + 1))) Q3 ∧ Ch (fun _ => False) w W) := hid (by
                  rintro W rfl
                  rw [HAcc.out, show pickR j B a = (g, s) by unfold pickR; rw [hrt]; show (if g % 2 = j ∧ a.1 < g then (g, s) else a) = _; rw [if_pos ⟨hp, by omega⟩]]
                  have hcc : Ch (fun k => k = rp) w5 ((w5.setCell ⟨rp, 1, none⟩ (.int .i64 (g : Int))).setCell ⟨rp, 2, none⟩ (.string ⟨s.toArray⟩)) := ((Ch.refl (fun k => k = rp) w5).setCell (fun _ => rfl) _).setCell (fun _ => rfl) _
                  have := (HX5.out.head g s false hgb hcc (fun k hk => by rw [Below.heap_setCell _ _ _ _ hk, Below.heap_setCell _ _ _ _ hk]) (by rw [heap_set (heap_set HX5.out.inn.hp 1 _) 2 _]; rfl)).1
                  exact ⟨⟨ib, fb, Pv, F, M2, this⟩, HC5.out.then hcc (fun i hi e => by
                    have := HRp.out
                    omega)⟩)
                unfold rootV
                clear hrt hp
                go_wp2_with fail
                go_roundw
                case rel => exact ⟨j + 1, by go_num, by omega, hid ⟨(HN5.out _ rfl).1, (HN5.out _ rfl).2, fun _ => HGn.out⟩⟩
                case measure => simp [intOf]; omega
              · have HN5 : Hid (RZ w0 w5 rp rq (newP d (accR d (j + 1))) Q3) := hid (by
                  rw [HAcc.out, show pickR j B a = a by unfold pickR; rw [hrt]; show (if g % 2 = j ∧ a.1 < g then (g, s) else a) = _; rw [if_neg (fun h => by omega)]]
                  exact HR5.out)
                unfold rootV
                clear hrt hp
                go_wp2_with fail
                go_roundw
                case rel => exact ⟨j + 1, by go_num, by omega, hid ⟨HN5.out, HC5.out, fun _ => HGn.out⟩⟩
                case measure => simp [intOf]; omega
            · have hpb : ((g : Int) % 2 == (j : Int)) = false := by rw [beq_eq_false_iff_ne]; omega
              have HN5 : Hid (RZ w0 w5 rp rq (newP d (accR d (j + 1))) Q3) := hid (by
                rw [HAcc.out, show pickR j B a = a by unfold pickR; rw [hrt]; show (if g % 2 = j ∧ a.1 < g then (g, s) else a) = _; rw [if_neg (fun h => hp h.1)]]
                exact HR5.out)
              unfold rootV
              clear hrt hp
              go_wp2_with fail
              go_roundw
              case rel => exact ⟨j + 1, by go_num, by omega, hid ⟨HN5.out, HC5.out, fun _ => HGn.out⟩⟩
              case measure => simp [intOf]; omega
      · obtain rfl : j = 2 := by omega
        have c1 := (rz_two HR.out rfl).2
        have c1' : wr.cell? ⟨rp, 1, none⟩ = some (.int .i64 ((accR d 2).1 : Int)) := c1
        clear c1
        have hng := HG.out (by omega)
        by_cases h0 : (accR d 2).1 = 0
        · have fin : Hid (ROpenPost w0 w rq d Q (.returned (.tuple #[.pointer none, .int .i64 10])) wr) := hid (by
            have e : openE d = 10 := by unfold openE; rw [if_neg (by rw [HN.out]; exact H4.out), if_neg hng, if_pos h0]
            exact ⟨HC.out, .inl ⟨by rw [e]; simp, by rw [e]; rfl⟩⟩)
          rw [h0] at c1'
          clear h0 hng
          go_wp2_with fail
          go_ret2
          exact fin.out
        · have fin : Hid (ROpenPost w0 w rq d Q (.returned (.tuple #[.pointer (some ⟨rp, 0, none⟩), .int .i64 0])) wr) := hid (by
            have e : openE d = 0 := by unfold openE; rw [if_neg (by rw [HN.out]; exact H4.out), if_neg hng, if_neg h0]
            exact ⟨HC.out, .inr ⟨e, rp, Q3, rfl, HR.out, HFr.out⟩⟩)
          obtain ⟨a1, HA1⟩ : ∃ a1, Hid ((accR d 2).1 = a1) := ⟨_, hid rfl⟩
          rw [HA1.out] at c1' h0
          have h0b : ((a1 : Int) == 0) = false := by rw [beq_eq_false_iff_ne]; omega
          clear h0 hng
          go_wp2_with fail
          go_ret2
          exact fin.out)

end Go.Proofs.Ytadhibemadgcoaa
