/- Package page's five functions, one contract each, for every input. Conditions: a slice of bytes has at most 2^47 of them. -/
import Derived.Test.YtadhibemadgcoaaPageE
namespace Go.Proofs.Ytadhibemadgcoaa
open Go.RowKit

/-- Seal's error; its bytes. -/
def sealE (kind gen : Int) (n : Nat) : Nat := if kind < 0 ∨ 255 < kind ∨ gen < 0 ∨ 281474976710655 < gen then 2 else if 492 < n then 4 else 0
def sealL (kind gen : Int) (s : List UInt8) : List UInt8 := if sealE kind gen s.length = 0 then sealB kind.toNat gen.toNat s else []
/-- SealRoot's error; its bytes. -/
def srootE (gen : Int) (n : Nat) : Nat := if gen < 1 ∨ 4611686018427387904 < gen then 2 else if 490 < n then 4 else 0
def srootL (gen : Int) (s : List UInt8) : List UInt8 := if srootE gen s.length = 0 then rootB gen.toNat s else []

theorem sealE_cases (kind gen : Int) (n : Nat) : (sealE kind gen n = 2 ∧ (kind < 0 ∨ 255 < kind ∨ gen < 0 ∨ 281474976710655 < gen)) ∨
    (sealE kind gen n = 4 ∧ 492 < n ∧ 0 ≤ kind ∧ kind ≤ 255 ∧ 0 ≤ gen ∧ gen ≤ 281474976710655) ∨ (sealE kind gen n = 0 ∧ n ≤ 492 ∧ 0 ≤ kind ∧ kind ≤ 255 ∧ 0 ≤ gen ∧ gen ≤ 281474976710655) := by
  unfold sealE; split
  · exact .inl ⟨rfl, ‹_›⟩
  · split
    · exact .inr (.inl ⟨rfl, by omega⟩)
    · exact .inr (.inr ⟨rfl, by omega⟩)
theorem srootE_cases (gen : Int) (n : Nat) : (srootE gen n = 2 ∧ (gen < 1 ∨ 4611686018427387904 < gen)) ∨
    (srootE gen n = 4 ∧ 490 < n ∧ 1 ≤ gen ∧ gen ≤ 4611686018427387904) ∨ (srootE gen n = 0 ∧ n ≤ 490 ∧ 1 ≤ gen ∧ gen ≤ 4611686018427387904) := by
  unfold srootE; split
  · exact .inl ⟨rfl, ‹_›⟩
  · split
    · exact .inr (.inl ⟨rfl, by omega⟩)
    · exact .inr (.inr ⟨rfl, by omega⟩)

theorem bts_nil (w : World) : Bts w (.slice none 0 0) [] := .inl ⟨_, _, rfl, rfl⟩
theorem own_nil {n : Nat} : ∀ k, (Value.slice none 0 0).ownBlock = some k → n ≤ k := fun k h => by cases h
theorem own_some {b off l c n : Nat} (h : n ≤ b) : ∀ k, (Value.slice (some ⟨b, off, none⟩) l c).ownBlock = some k → n ≤ k := fun k hk => by cases hk; exact h
theorem size_toList (s : ByteArray) : s.data.toList.length = s.size := rfl

theorem seal_any (kind gen : Int) (s : ByteArray) (w : World) :
    Calls Try.prog 31 #[.int .i64 kind, .int .i64 gen, .string s] w fun e w' => ∃ v, e = .returned (.tuple #[v, .int .i64 (sealE kind gen s.size : Nat)]) ∧
      Bts w' v (sealL kind gen s.data.toList) ∧ Ch (fun _ => False) w w' ∧ ∀ k, v.ownBlock = some k → w.heap.size ≤ k := by
  unfold sealL
  rw [size_toList]
  rcases sealE_cases kind gen s.size with ⟨h, h1⟩ | ⟨h, h1, h2, h3, h4, h5⟩ | ⟨h, h1, h2, h3, h4, h5⟩
  · rw [h]
    exact (seal_bad kind gen s w h1).mono fun e w' ⟨he, hw⟩ => ⟨_, he, bts_nil _, hw ▸ Ch.refl _ _, own_nil⟩
  · rw [h]
    obtain ⟨k, rfl⟩ := Int.eq_ofNat_of_zero_le h2
    obtain ⟨g, rfl⟩ := Int.eq_ofNat_of_zero_le h4
    exact (seal_long k g s w (by omega) (by omega) h1).mono fun e w' ⟨he, hw⟩ => ⟨_, he, bts_nil _, hw ▸ Ch.refl _ _, own_nil⟩
  · rw [h]
    obtain ⟨k, rfl⟩ := Int.eq_ofNat_of_zero_le h2
    obtain ⟨g, rfl⟩ := Int.eq_ofNat_of_zero_le h4
    refine (seal_ok k g s w (by omega) (by omega) h1).mono fun e w' ⟨b, he, hb, hc, hs⟩ => ⟨_, he, ?_, hc, own_some hs⟩
    have := bts_cells (cs := []) (by simpa using hb) 512 (by rw [sealB_length]; omega)
    rw [sealB_length] at this
    simpa using this

theorem sroot_any (gen : Int) (s : ByteArray) (w : World) :
    Calls Try.prog 33 #[.int .i64 gen, .string s] w fun e w' => ∃ v, e = .returned (.tuple #[v, .int .i64 (srootE gen s.size : Nat)]) ∧
      Bts w' v (srootL gen s.data.toList) ∧ Ch (fun _ => False) w w' ∧ ∀ k, v.ownBlock = some k → w.heap.size ≤ k := by
  unfold srootL
  rw [size_toList]
  rcases srootE_cases gen s.size with ⟨h, h1⟩ | ⟨h, h1, h2, h3⟩ | ⟨h, h1, h2, h3⟩
  · rw [h]
    exact (root_bad gen s w h1).mono fun e w' ⟨he, hw⟩ => ⟨_, he, bts_nil _, hw ▸ Ch.refl _ _, own_nil⟩
  · rw [h]
    obtain ⟨g, rfl⟩ := Int.eq_ofNat_of_zero_le (show 0 ≤ gen by omega)
    exact (root_long g s w (by omega) (by omega) h1).mono fun e w' ⟨he, hw⟩ => ⟨_, he, bts_nil _, hw ▸ Ch.refl _ _, own_nil⟩
  · rw [h]
    obtain ⟨g, rfl⟩ := Int.eq_ofNat_of_zero_le (show 0 ≤ gen by omega)
    refine (root_ok g s w (by omega) (by omega) h1).mono fun e w' ⟨b, he, hb, hc, hs⟩ => ⟨_, he, ?_, hc, own_some hs⟩
    have := bts_cells (cs := []) (by simpa using hb) 512 (by rw [rootB_length]; omega)
    rw [rootB_length] at this
    simpa using this

theorem open_any (v : Value) (l : List UInt8) (w : World) (hlen : l.length ≤ 140737488355328) (hv : Bts w v l) :
    Calls Try.prog 36 #[v] w fun e w' => e = .returned (openV (openL l)) ∧ Ch (fun _ => False) w w' := by
  by_cases h : l.length = 512
  · exact open_full v l w h hv
  · rw [show openL l = none by rw [openL, if_neg (fun x => h x.1)]]
    exact (open_short v l w hlen h hv).mono fun e w' ⟨he, hw⟩ => ⟨he, hw ▸ Ch.refl _ _⟩
theorem rootopen_any (v : Value) (l : List UInt8) (w : World) (hlen : l.length ≤ 140737488355328) (hv : Bts w v l) :
    Calls Try.prog 38 #[v] w fun e w' => e = .returned (rootV (rootL l)) ∧ Ch (fun _ => False) w w' := by
  by_cases h : l.length = 512
  · exact rootopen_full v l w h hv
  · rw [show rootL l = none by rw [rootL, if_neg (fun x => h x.1)]]
    exact (rootopen_short v l w hlen h hv).mono fun e w' ⟨he, hw⟩ => ⟨he, hw ▸ Ch.refl _ _⟩

end Go.Proofs.Ytadhibemadgcoaa
