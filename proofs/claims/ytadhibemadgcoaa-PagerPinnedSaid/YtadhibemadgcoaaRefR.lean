/- The reference of layer 2 (page): Open and OpenRoot: what they answer. Conditions: a string of at most 2^47 bytes. -/
import Derived.Test.YtadhibemadgcoaaRefQ
namespace Go.Proofs.Ytadhibemadgcoaa
open Go.RowKit

theorem extract_toList (s : ByteArray) (i j : Nat) : (s.extract i j).data.toList = (s.data.toList.drop i).take (j - i) := by
  rw [ByteArray.data_extract]
  simp
theorem str_eq {t : ByteArray} {l : List UInt8} (h : t.data.toList = l) : t = ⟨l.toArray⟩ := by
  cases t; subst h; simp
theorem rread_ex (s : ByteArray) (i j : Nat) (w : World) (r : Nat) (hj : j ≤ s.size) (hij : j - i ≤ 7) (hr : rdl ((s.data.toList.drop i).take (j - i)) = r) :
    Calls Try.prog 90 #[.string (s.extract i j)] w fun e w' => e = .returned (.int .i64 (r : Nat)) ∧ w = w' := by
  subst hr
  have h := extract_toList s i j
  have hb : rdl (s.extract i j).data.toList < 9223372036854775808 := by
    rw [h]
    refine Nat.lt_of_lt_of_le (rdl_take_lt _ _ _) (Nat.le_trans (Nat.pow_le_pow_right (by omega) hij) (by decide))
  have := rread_any (s.extract i j) w (by rw [ByteArray.size_extract]; omega) hb
  rw [h] at this
  exact this

set_option maxRecDepth 100000 in
set_option maxHeartbeats 1000000 in
theorem ropen_full (s : ByteArray) (w : World) (hs : s.size = 512) :
    Calls Try.prog 37 #[.string s] w fun e w' => e = .returned (openV (openL s.data.toList)) ∧ Ch (fun _ => False) w w' := by
  obtain ⟨kind, HK⟩ : ∃ k, Hid (rdl ((s.data.toList.drop 2).take 1) = k) := ⟨_, hid rfl⟩
  obtain ⟨n, HN⟩ : ∃ k, Hid (rdl ((s.data.toList.drop 4).take 2) = k) := ⟨_, hid rfl⟩
  obtain ⟨gen, HG⟩ : ∃ k, Hid (rdl ((s.data.toList.drop 6).take 6) = k) := ⟨_, hid rfl⟩
  have hk : kind < 256 := by have := rdl_take_lt s.data.toList 2 1; rw [HK.out] at this; omega
  have hn : n < 65536 := by have := rdl_take_lt s.data.toList 4 2; rw [HN.out] at this; omega
  have hg : gen < 281474976710656 := by have := rdl_take_lt s.data.toList 6 6; rw [HG.out] at this; omega
  have HS := hid hs
  have hlt : 2 < s.size := by omega
  have hk2 : s[2].toNat = kind := by
    rw [← HK.out]
    have := take_snoc_at s.data.toList 2 0 (by rw [size_toList]; omega)
    rw [this]
    simp [rdl]
    rfl
  have hsz1 : 512 ≤ s.size := by omega
  have hsz2 : s.size ≤ 512 := by omega
  have hl : s.data.toList.length = 512 := hs
  have HL := hid hl
  clear hs hl
  go_enter Try.func37, Try.ntmps37
  go_wp2_with fail
  refine (rread_ex s 4 6 _ n (by omega) (by omega) HN.out).mono ?_
  rintro e w' ⟨rfl, rfl⟩
  by_cases hn2 : n ≤ 492
  · go_wp2_with fail
    obtain ⟨T, HT⟩ : ∃ T, Hid (s.extract 20 (20 + n) = T) := ⟨_, hid rfl⟩
    have HTl : Hid (T.data.toList = (s.data.toList.drop 20).take n) := hid (by rw [← HT.out, extract_toList]; congr 1; omega)
    have htl : T.size ≤ 492 := by rw [← size_toList, HTl.out]; simp; omega
    have HQ1 := hid (rread_ex s 6 12 w.drew gen (by omega) (by omega) HG.out)
    have HQ2 := hid (rseal_ok kind gen T w.drew (by omega) (by omega) htl)
    have hw1 : IntKind.i64.wrap (20 + (n : Int)) = 20 + (n : Int) := wrap_id (by omega) (by omega)
    have hw2 : IntKind.i64.wrap (kind : Int) = (kind : Int) := wrap_id (by omega) (by omega)
    have hw3 : (20 + (n : Int)).toNat = 20 + n := by omega
    have ht := HT.out
    have hb1 : (12 : Int) ≤ (s.size : Int) := by omega
    have hb2 : 20 + (n : Int) ≤ (s.size : Int) := by omega
    have hb3 : (20 : Int) ≤ 20 + (n : Int) := by omega
    have hb4 : (0 : Int) ≤ 20 + (n : Int) := by omega
    have hb5 : (20 : Int) + (n : Int) ≤ 512 := by omega
    go_region_with (first | (go_at_call 90; refine HQ1.out.mono ?_; rintro e w' ⟨rfl, rfl⟩) | (go_at_call 32; refine HQ2.out.mono ?_; rintro e w' ⟨t, rfl, h1, c1⟩))
    all_goals
      have HT1 := hid h1
      have HC1 := hid c1
      clear h1 c1
      by_cases hq : sealB kind gen T.data.toList = s.data.toList
      · have hqb := beq_str_eq (HT1.out.trans hq)
        have HO : Hid (openL s.data.toList = some (kind, gen, T.data.toList)) := hid (by
          rw [openL, if_pos ⟨HL.out, by rw [HN.out]; exact hn2, by rw [HK.out, HN.out, HG.out, ← HTl.out]; exact hq⟩, HK.out, HN.out, HG.out, HTl.out])
        have HQ3 := hid (rread_ex s 6 12 w'.drew gen (by omega) (by omega) HG.out)
        clear hq HQ1 HQ2
        go_wp2_with fail
        go_region_with (go_at_call 90; refine HQ3.out.mono ?_; rintro e w2 ⟨rfl, rfl⟩)
        all_goals
          go_wp2
          exact bodyPost_ret (v := openV (some (kind, gen, T.data.toList))) (by simp [results, Try.results37, go_sem, openV]) rfl ⟨by rw [HO.out], HC1.out.undrew.drew⟩
      · have hqb := beq_str_ne (HT1.out.symm ▸ hq)
        have HO : Hid (openL s.data.toList = none) := hid (by rw [openL, if_neg (by rw [HK.out, HN.out, HG.out, ← HTl.out]; exact fun h => hq h.2.2)])
        clear hq
        go_wp2
        exact bodyPost_ret (v := openV none) (by simp [results, Try.results37, go_sem, openV]) rfl ⟨by rw [HO.out], HC1.out.undrew⟩
  · go_wp2
    exact bodyPost_ret (v := openV none) (by simp [results, Try.results37, go_sem, openV]) rfl ⟨by rw [openL, if_neg (by rw [HN.out]; omega)], Ch.refl _ _⟩

theorem ropen_short (s : ByteArray) (w : World) (hs : s.size ≠ 512) (_hl : s.size ≤ 140737488355328) :
    Calls Try.prog 37 #[.string s] w fun e w' => e = .returned (openV (openL s.data.toList)) ∧ Ch (fun _ => False) w w' := by
  have HO : Hid (openL s.data.toList = none) := hid (by rw [openL, if_neg (fun h => hs h.1)])
  have hn : ((s.size : Int) != 512) = true := by rw [bne_iff_ne]; omega
  clear hs
  go_enter Try.func37, Try.ntmps37
  go_wp2
  exact bodyPost_ret (v := openV none) (by simp [results, Try.results37, go_sem, openV]) rfl ⟨by rw [HO.out], Ch.refl _ _⟩
theorem ropen_any (s : ByteArray) (w : World) (hl : s.size ≤ 140737488355328) :
    Calls Try.prog 37 #[.string s] w fun e w' => e = .returned (openV (openL s.data.toList)) ∧ Ch (fun _ => False) w w' := by
  by_cases h : s.size = 512
  · exact ropen_full s w h
  · exact ropen_short s w h hl

theorem rdl_cons (c : UInt8) (cs : List UInt8) : rdl (c :: cs) = c.toNat * 256 ^ cs.length + rdl cs := by
  suffices h : ∀ (cs : List UInt8) (x : Nat), cs.foldl (fun x c => x * 256 + c.toNat) x = x * 256 ^ cs.length + rdl cs by simpa [rdl] using h cs c.toNat
  intro cs
  induction cs with
  | nil => intro x; simp [rdl]
  | cons d ds ih =>
    intro x
    have hd : rdl (d :: ds) = d.toNat * 256 ^ ds.length + rdl ds := by
      show List.foldl _ (0 * 256 + d.toNat) ds = _
      rw [ih, Nat.zero_mul, Nat.zero_add]
    rw [List.foldl_cons, ih, hd, List.length_cons, Nat.pow_succ, Nat.add_mul, Nat.mul_assoc, Nat.mul_comm 256, Nat.add_assoc]
theorem rdl_take8 (l : List UInt8) (h : l.length = 512) : ∃ r, r < 72057594037927936 ∧ rdl (l.take 8) = (l[0]'(by omega)).toNat * 72057594037927936 + r := by
  refine ⟨rdl ((l.drop 1).take 7), ?_, ?_⟩
  · have := rdl_take_lt l 1 7
    omega
  · have : l.take 8 = l[0]'(by omega) :: (l.drop 1).take 7 := by
      cases l with
      | nil => simp at h
      | cons c cs => simp
    rw [this, rdl_cons]
    have h7 : ((l.drop 1).take 7).length = 7 := by simp; omega
    rw [h7]

set_option maxRecDepth 100000 in
set_option maxHeartbeats 1000000 in
theorem rrootopen_full (s : ByteArray) (w : World) (hs : s.size = 512) :
    Calls Try.prog 39 #[.string s] w fun e w' => e = .returned (rootV (rootL s.data.toList)) ∧ Ch (fun _ => False) w w' := by
  have hl : s.data.toList.length = 512 := hs
  obtain ⟨r, hr, h8⟩ := rdl_take8 s.data.toList hl
  obtain ⟨g, HG⟩ : ∃ k, Hid (rdl (s.data.toList.take 8) = k) := ⟨_, hid rfl⟩
  obtain ⟨n, HN⟩ : ∃ k, Hid (rdl ((s.data.toList.drop 8).take 2) = k) := ⟨_, hid rfl⟩
  have hn : n < 65536 := by have := rdl_take_lt s.data.toList 8 2; rw [HN.out] at this; omega
  have hlt : 0 < s.size := by omega
  obtain ⟨c, HC⟩ : ∃ c, Hid (s[0].toNat = c) := ⟨_, hid rfl⟩
  have hc := HC.out
  rw [HG.out, show (s.data.toList[0]'(by omega)).toNat = c from hc] at h8
  have HS := hid hs
  have HL := hid hl
  have H8 := hid h8
  have hsz1 : 512 ≤ s.size := by omega
  have hsz2 : s.size ≤ 512 := by omega
  have hc256 : c < 256 := by rw [← hc]; exact UInt8.toNat_lt _
  clear hs hl h8
  by_cases hc64 : 64 < c
  · have HO : Hid (rootL s.data.toList = none) := hid (by rw [rootL, if_neg (by rw [HG.out]; intro h; have := H8.out; omega)])
    clear hr
    go_enter Try.func39, Try.ntmps39
    go_wp2
    go_ret3
    exact ⟨by rw [HO.out]; rfl, Ch.refl _ _⟩
  · have hgl : g < 4683743612465315840 := by have := H8.out; omega
    have HGL := hid hgl
    have hge : rdl (s.extract 0 8).data.toList = g := by rw [extract_toList]; simpa using HG.out
    have HQ1 := hid (rread_any (s.extract 0 8) w (by rw [ByteArray.size_extract]; omega) (by rw [hge]; omega))
    rw [hge] at HQ1
    clear hr hge hgl
    go_enter Try.func39, Try.ntmps39
    go_wp2_with fail
    refine HQ1.out.mono ?_
    rintro e w' ⟨rfl, rfl⟩
    go_wp2_with fail
    refine (rread_ex s 8 10 _ n (by omega) (by omega) HN.out).mono ?_
    rintro e w' ⟨rfl, rfl⟩
    by_cases hn2 : n ≤ 490
    · obtain ⟨T, HT⟩ : ∃ T, Hid (s.extract 10 (10 + n) = T) := ⟨_, hid rfl⟩
      have HTl : Hid (T.data.toList = (s.data.toList.drop 10).take n) := hid (by rw [← HT.out, extract_toList]; congr 1; omega)
      have htl : T.size ≤ 490 := by rw [← size_toList, HTl.out]; simp; omega
      have ht := HT.out
      go_wp2_with fail
      refine (rroot_any (g : Int) T _).mono ?_
      rintro e w1 ⟨t, rfl, h1, c1⟩
      have HH1 := hid h1
      have HC1 := hid c1
      clear h1 c1
      have hb2 : 10 + (n : Int) ≤ (s.size : Int) := by omega
      have hb3 : (10 : Int) ≤ 10 + (n : Int) := by omega
      have hb4 : (0 : Int) ≤ 10 + (n : Int) := by omega
      have hb5 : (10 : Int) + (n : Int) ≤ 512 := by omega
      have hw1 : IntKind.i64.wrap (10 + (n : Int)) = 10 + (n : Int) := wrap_id (by omega) (by omega)
      have hw3 : (10 + (n : Int)).toNat = 10 + n := by omega
      by_cases hq : srootL g T.data.toList = s.data.toList
      · have hqb := beq_str_eq (HH1.out.trans hq)
        have HO : Hid (rootL s.data.toList = some (g, T.data.toList)) := hid (by
          have hE : srootE g T.data.toList.length = 0 := by
            unfold srootL at hq
            split at hq
            · assumption
            · have := HL.out; rw [← hq] at this; cases this
          rw [srootL, if_pos hE, Int.toNat_natCast] at hq
          rcases srootE_cases g T.data.toList.length with ⟨h, h1⟩ | ⟨h, h1, h2, h3⟩ | ⟨h, h1, h2, h3⟩
          · omega
          · omega
          · rw [rootL, if_pos ⟨HL.out, by rw [HN.out]; exact hn2, by rw [HG.out]; omega, by rw [HN.out, HG.out, ← HTl.out]; exact hq⟩, HN.out, HG.out, HTl.out])
        clear hq
        go_wp2_with fail
        go_region
        all_goals go_wp2
        all_goals go_ret3
        all_goals exact ⟨by rw [HO.out]; rfl, HC1.out.drew⟩
      · have hqb := beq_str_ne (HH1.out.symm ▸ hq)
        have HO : Hid (rootL s.data.toList = none) := hid (by
          rw [rootL, if_neg]
          rw [HN.out, HG.out, ← HTl.out]
          intro h
          refine hq ?_
          rw [srootL, if_pos ?_, Int.toNat_natCast]
          · exact h.2.2.2
          · rcases srootE_cases g T.data.toList.length with ⟨h5, h1⟩ | ⟨h5, h1, h2, h3⟩ | ⟨h5, h1, h2, h3⟩
            · omega
            · rw [size_toList] at h1; omega
            · exact h5)
        clear hq
        go_wp2
        go_ret3
        exact ⟨by rw [HO.out]; rfl, HC1.out⟩
    · go_wp2
      go_ret3
      exact ⟨by rw [rootL, if_neg (by rw [HN.out]; omega)]; rfl, Ch.refl _ _⟩

theorem rrootopen_short (s : ByteArray) (w : World) (hs : s.size ≠ 512) (_hl : s.size ≤ 140737488355328) :
    Calls Try.prog 39 #[.string s] w fun e w' => e = .returned (rootV (rootL s.data.toList)) ∧ Ch (fun _ => False) w w' := by
  have HO : Hid (rootL s.data.toList = none) := hid (by rw [rootL, if_neg (fun h => hs h.1)])
  have hn : ((s.size : Int) != 512) = true := by rw [bne_iff_ne]; omega
  clear hs
  go_enter Try.func39, Try.ntmps39
  go_wp2
  go_ret3
  exact ⟨by rw [HO.out]; rfl, Ch.refl _ _⟩
theorem rrootopen_any (s : ByteArray) (w : World) (hl : s.size ≤ 140737488355328) :
    Calls Try.prog 39 #[.string s] w fun e w' => e = .returned (rootV (rootL s.data.toList)) ∧ Ch (fun _ => False) w w' := by
  by_cases h : s.size = 512
  · exact rrootopen_full s w h
  · exact rrootopen_short s w h hl

end Go.Proofs.Ytadhibemadgcoaa
