/- Open and OpenRoot of package page: what they find in bytes. Conditions: none on the bytes but their number. -/
import Derived.Test.YtadhibemadgcoaaPageC
namespace Go.Proofs.Ytadhibemadgcoaa
open Go.RowKit

/-- A sector that is read: its two cells at block a, its bytes at block b. -/
def Tk (w : World) (a b off cap : Nat) (l : List UInt8) (i : Nat) : Prop :=
  ∃ cs e fz, w.heap[a]? = some (.cells #[.slice (some ⟨b, off, none⟩) l.length cap, .int .i64 (i : Int)] 136 (0, 0)) ∧ w.heap[b]? = some (.cells cs e fz) ∧
    (∀ j, (h : j < l.length) → cs[off + j]? = some (.int .u8 (l[j].toNat : Int))) ∧ a ≠ b
theorem Tk.frame {w w' : World} {a b off cap : Nat} {l : List UInt8} {i : Nat} (h : Tk w a b off cap l i) (ha : w'.heap[a]? = w.heap[a]?) (hb : w'.heap[b]? = w.heap[b]?) : Tk w' a b off cap l i := by
  obtain ⟨cs, e, fz, h1, h2, h3, h4⟩ := h
  exact ⟨cs, e, fz, ha.trans h1, hb.trans h2, h3, h4⟩
theorem take_tk (m z : Int) (a b off cap : Nat) (l : List UInt8) (i n : Nat) (w : World) (hm : m = (n : Int)) (hn : n ≤ 8) (hi : i + n ≤ l.length) (hlen : l.length ≤ 140737488355328) (hT : Tk w a b off cap l i) (hz : wrap64 (rdl ((l.drop i).take n) : Nat) = z) :
    Calls Try.prog 88 #[.pointer (some ⟨a, 0, none⟩), .int .i64 m] w fun e w' =>
      e = .returned (.int .i64 z) ∧ Tk w' a b off cap l (i + n) ∧ Ch (fun k => k = a) w w' := by
  subst hm
  subst hz
  obtain ⟨cs, e, fz, h1, h2, h3, h4⟩ := hT
  refine (take_any a l i n w b off cap cs e fz hn hi hlen h2 h3 h1 h4).mono ?_
  rintro e w' ⟨rfl, hch, hh⟩
  exact ⟨rfl, ⟨cs, _, fz, hh, hch.keep h2 (Ne.symm h4), h3, h4⟩, hch⟩

theorem rdl_lt (l : List UInt8) : rdl l < 256 ^ l.length := by
  suffices h : ∀ (l : List UInt8) (x n : Nat), x < 256 ^ n → l.foldl (fun x c => x * 256 + c.toNat) x < 256 ^ (n + l.length) by simpa [rdl] using h l 0 0 (by simp)
  intro l
  induction l with
  | nil => intro x n h; simpa using h
  | cons c cs ih =>
    intro x n h
    have := ih (x * 256 + c.toNat) (n + 1) (by have := c.toNat_lt; rw [Nat.pow_succ]; omega)
    simpa [Nat.add_assoc, Nat.add_comm 1] using this
theorem rdl_take_lt (l : List UInt8) (i n : Nat) : rdl ((l.drop i).take n) < 256 ^ n := by
  refine Nat.lt_of_lt_of_le (rdl_lt _) (Nat.pow_le_pow_right (by omega) ?_)
  simp; omega

/-- What a page's sector holds. -/
def openL (l : List UInt8) : Option (Nat × Nat × List UInt8) :=
  if l.length = 512 ∧ rdl ((l.drop 4).take 2) ≤ 492 ∧ sealB (rdl ((l.drop 2).take 1)) (rdl ((l.drop 6).take 6)) ((l.drop 20).take (rdl ((l.drop 4).take 2))) = l
  then some (rdl ((l.drop 2).take 1), rdl ((l.drop 6).take 6), (l.drop 20).take (rdl ((l.drop 4).take 2))) else none
def openV : Option (Nat × Nat × List UInt8) → Value
  | some (k, g, s) => .tuple #[.int .i64 (k : Int), .int .i64 (g : Int), .string ⟨s.toArray⟩, .int .i64 0]
  | none => .tuple #[.int .i64 0, .int .i64 0, .string ⟨#[]⟩, .int .i64 11]

set_option maxHeartbeats 400000 in
theorem open_short (v : Value) (l : List UInt8) (w : World) (hlen : l.length ≤ 140737488355328) (h : l.length ≠ 512) (hv : Bts w v l) :
    Calls Try.prog 36 #[v] w fun e w' => e = .returned (openV none) ∧ w = w' := by
  rcases hv with ⟨a, c0, rfl, rfl⟩ | ⟨b, off, cap, cs, e, fz, rfl, hcap, hb, hc⟩
  · go_enter Try.func36, Try.ntmps36
    go_wp2
    exact bodyPost_ret (v := openV none) (by simp [results, Try.results36, go_sem, openV]) rfl ⟨rfl, rfl⟩
  · clear hb hc
    have hn : ((l.length : Int) != 512) = true := by rw [bne_iff_ne]; omega
    clear h
    go_enter Try.func36, Try.ntmps36
    go_wp2
    exact bodyPost_ret (v := openV none) (by simp [results, Try.results36, go_sem, openV]) rfl ⟨rfl, rfl⟩

set_option maxRecDepth 100000 in
set_option maxHeartbeats 1000000 in
theorem open_full (v : Value) (l : List UInt8) (w : World) (h : l.length = 512) (hv : Bts w v l) :
    Calls Try.prog 36 #[v] w fun e w' => e = .returned (openV (openL l)) ∧ Ch (fun _ => False) w w' := by
  rcases hv with ⟨a, c0, rfl, rfl⟩ | ⟨b, off, cap, cs, e, fz, rfl, hcap, hb, hc⟩
  · simp at h
  · have HB := hid hb
    have HC := hid hc
    have hblt := blk_lt hb
    have hne : w.heap.size ≠ b := by omega
    have H := hid h
    rw [h] at hcap
    clear hb hc h
    rw [H.out]
    go_enter Try.func36, Try.ntmps36
    go_wp2_with fail
    obtain ⟨kind, HK⟩ : ∃ k, Hid (rdl ((l.drop 2).take 1) = k) := ⟨_, hid rfl⟩
    obtain ⟨n, HN⟩ : ∃ k, Hid (rdl ((l.drop 4).take 2) = k) := ⟨_, hid rfl⟩
    obtain ⟨gen, HG⟩ : ∃ k, Hid (rdl ((l.drop 6).take 6) = k) := ⟨_, hid rfl⟩
    have hk : kind < 256 := by have := rdl_take_lt l 2 1; rw [HK.out] at this; omega
    have hn : n < 65536 := by have := rdl_take_lt l 4 2; rw [HN.out] at this; omega
    have hg : gen < 281474976710656 := by have := rdl_take_lt l 6 6; rw [HG.out] at this; omega
    have HT0 : Hid (Tk (w.alloc (.cells #[.slice (some ⟨b, off, none⟩) 512 cap, .int .i64 2] 136)) w.heap.size b off cap l 2) := hid ⟨cs, _, fz, by rw [heap_new, H.out]; rfl, heap_old HB.out _, HC.out, hne⟩
    have hch0 : Ch (fun _ => False) w (w.alloc (.cells #[.slice (some ⟨b, off, none⟩) 512 cap, .int .i64 2] 136)) := (Ch.refl _ _).alloc _
    refine (take_tk 1 kind w.heap.size b off cap l 2 1 _ rfl (by omega) (by rw [H.out]; omega) (by rw [H.out]; omega) HT0.out (by rw [HK.out, wrap64_id (by omega) (by omega)])).mono ?_
    rintro e w1 ⟨rfl, hT1, hch1⟩
    have HT1 := hid hT1
    clear hT1
    go_wp2_with fail
    refine (take_tk 1 _ w.heap.size b off cap l _ 1 _ rfl (by omega) (by rw [H.out]; omega) (by rw [H.out]; omega) HT1.out rfl).mono ?_
    rintro e w2 ⟨rfl, hT2, hch2⟩
    have HT2 := hid hT2
    clear hT2
    go_wp2_with fail
    have HQ := hid (take_tk 2 n w.heap.size b off cap l 4 2 w2.drew rfl (by omega) (by rw [H.out]; omega) (by rw [H.out]; omega) (HT2.out.frame (w' := w2.drew) rfl rfl) (by rw [HN.out, wrap64_id (by omega) (by omega)]))
    have HG6 : Hid (wrap64 (rdl ((l.drop 6).take 6) : Nat) = (gen : Int)) := hid (by rw [HG.out, wrap64_id (by omega) (by omega)])
    go_region_with (first | (go_at_call 88; (with_reducible refine HQ.out.mono ?_); rintro e w3 ⟨rfl, hT3, hch3⟩; have HT3 := hid hT3; clear hT3) | (go_at_call 88; refine (take_tk 6 gen w.heap.size b off cap l 6 6 _ rfl (by omega) (by rw [H.out]; omega) (by rw [H.out]; omega) HT3.out HG6.out).mono ?_; rintro e w4 ⟨rfl, hT4, hch4⟩; have HT4 := hid hT4; clear hT4))
    have hch : Ch (fun _ => False) w w4 := by
      have hx : ∀ k, k < w.heap.size → k = w.heap.size → False := by intro k h1 h2; omega
      exact ((((hch0.then hch1 hx).then hch2 hx).drew.then hch3 hx).then hch4 hx)
    have HCH := hid hch
    have hb4 := hid (HT4.out)
    clear hch hch0 hch1 hch2 hch3 hch4 HT0 HT1 HT2 HT3 HQ HG6
    by_cases hn2 : n ≤ 492
    · have hbts : Bts w4 (.slice (some ⟨b, off + 20, none⟩) n (cap - 20)) ((l.drop 20).take n) := by
        obtain ⟨cs4, e4, fz4, h1, h2, h3, h4⟩ := HT4.out
        have hl : ((l.drop 20).take n).length = n := by simp [H.out]; omega
        refine .inr ⟨b, off + 20, cap - 20, cs4, e4, fz4, by rw [hl], by omega, h2, fun j hj => ?_⟩
        rw [hl] at hj
        rw [Nat.add_assoc, h3 (20 + j) (by rw [H.out]; omega)]
        simp
      obtain ⟨s, HS⟩ : ∃ s, Hid ((l.drop 20).take n = s) := ⟨_, hid rfl⟩
      have hsl : s.length ≤ 492 := by rw [← HS.out]; simp; omega
      rw [HS.out] at hbts
      have hstr := str_of hbts
      clear hbts hb4
      have hc20 : ¬ cap = 20 := by omega
      go_wp2_with fail
      refine (seal_ok kind gen ⟨s.toArray⟩ _ (by omega) (by omega) (by simpa [ByteArray.size] using hsl)).mono ?_
      rintro e w5 ⟨ob, rfl, hob, hch5, hob2⟩
      have hq1 : Bts w5 (.slice (some ⟨ob, 0, none⟩) 512 512) (sealB kind gen s) := by
        have := bts_cells (cs := []) (by simpa using hob) 512 (by unfold sealB seal0; simp [putAt_length, zeros_length])
        rwa [show (sealB kind gen s).length = 512 by unfold sealB seal0; simp [putAt_length, zeros_length]] at this
      have hq2 : Bts w5 (.slice (some ⟨b, off, none⟩) 512 cap) l := by
        obtain ⟨cs4, e4, fz4, h1, h2, h3, h4⟩ := HT4.out
        exact .inr ⟨b, off, cap, cs4, e4, fz4, by rw [H.out], by rw [H.out]; exact hcap, hch5.keep h2 (fun h => h), h3⟩
      have HQ := hid (equal_any _ _ _ _ w5 hq1 hq2)
      have HCH5 := hid (HCH.out.trans hch5)
      clear hq1 hq2 hch5 hob hstr
      go_wp2_with fail
      refine HQ.out.mono ?_
      rintro e w6 ⟨rfl, rfl⟩
      by_cases hq : sealB kind gen s = l
      · have hqb : (sealB kind gen s == l) = true := by rw [hq]; exact beq_self_eq_true _
        have HO : Hid (openL l = some (kind, gen, s)) := hid (by rw [openL, if_pos ⟨H.out, by rw [HN.out]; exact hn2, by rw [HK.out, HN.out, HG.out, HS.out]; exact hq⟩, HK.out, HN.out, HG.out, HS.out])
        clear hq
        go_wp2
        exact bodyPost_ret (v := openV (some (kind, gen, s))) (by simp [results, Try.results36, go_sem, openV]) rfl ⟨by rw [HO.out], HCH5.out⟩
      · have hqb : (sealB kind gen s == l) = false := by simpa using hq
        have HO : Hid (openL l = none) := hid (by rw [openL, if_neg (by rw [HK.out, HN.out, HG.out, HS.out]; exact fun h => hq h.2.2)])
        clear hq
        go_wp2
        exact bodyPost_ret (v := openV none) (by simp [results, Try.results36, go_sem, openV]) rfl ⟨by rw [HO.out], HCH5.out⟩
    · go_wp2
      exact bodyPost_ret (v := openV none) (by simp [results, Try.results36, go_sem, openV]) rfl ⟨by rw [openL, if_neg (by rw [HN.out]; omega)], HCH.out⟩

end Go.Proofs.Ytadhibemadgcoaa
