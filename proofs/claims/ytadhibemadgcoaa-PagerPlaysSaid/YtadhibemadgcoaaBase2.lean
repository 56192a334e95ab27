/- More small facts on the world's blocks: copy, rows. Conditions: none. -/
import Derived.Test.YtadhibemadgcoaaBase
import Derived.ArgAppend
import Derived.StillTailTactics
namespace Go.Proofs.Ytadhibemadgcoaa
open Go.RowKit

/-- copy, its run known, as an operation of a list. -/
theorem wpList_copy_run {P : Program} {w : World} {ops : Array Oper} {rest : List Oper} {o : Oper} {a : Act} {Q : Exit → Act → World → Prop}
    (hg : o.guard = none) (x y : Operand) (tx ty : TypeId) (hop : o.op = Op.call { callee := Callee.builtin .copy, args := #[x, y], argTypes := #[tx, ty] })
    (v : Value) (w' : World) (hrun : (Builtin.copy_ #[tx, ty] o.type #[a.eval x, a.eval y]).run P w = .ok v w')
    (hK : wpList P ops Q rest (a.put o.dst v) w') : wpList P ops Q (o :: rest) a w := by
  refine wpList_plain hg fun K hK' => ?_
  unfold Oper.wp
  simp [execOp, hop, resolve, invoke, builtin, hrun, Result.andThen]
  exact hK' _ _ hK
/-- 'copy(dst, src)' of bytes into a row that has room for them. -/
theorem run_copy_bts {P : Program} (w : World) (t ty e : TypeId) (hu : P.underlying t = some (.slice e)) (hs : (P.info? e).map (·.size) = some 1) (g dLen dCap : Nat) (v : Value) (m : List UInt8) (cur : Array Value) (te : TypeId)
    (hg : w.heap[g]? = some (.cells cur te (0, 0))) (hv : Bts w v m) (hm : m.length ≤ dLen) (hfit : m.length ≤ cur.size) :
    ∃ r w', (Builtin.copy_ #[t, t] ty #[.slice (some ⟨g, 0, none⟩) dLen dCap, v]).run P w = .ok r w' ∧ w'.heap[g]? = some (.cells (bcells m ++ cur.toList.drop m.length).toArray te (0, 0)) ∧ Ch (fun k => k = g) w w' := by
  rcases hv with ⟨a, c, rfl, rfl⟩ | ⟨b, off, cap, cs, e', fz, rfl, hcap, hb, hc⟩
  · refine ⟨_, w, run_copy_none (P := P) w t t ty e _ _ dLen dCap 0 c hu hs (Nat.min_eq_left (Nat.zero_le _)), by simpa [bcells] using hg, Ch.refl _ _⟩
  · have hr := run_copy_row (P := P) w t t ty e g 0 dLen dCap ⟨b, off, none⟩ m.length cap cur te (bcells m) hu hs hg (by rw [bcells_length]; exact (Nat.min_eq_left hm).symm)
      (fun j u hj => by
        have hj2 : j < m.length := by have := (List.getElem?_eq_some_iff.1 hj).1; rwa [bcells_length] at this
        rw [add_plain, cell_blk hb, hc j hj2, ← hj, bcells_get m j hj2]) (by rw [bcells_length]; omega) bcells_one
    refine ⟨_, _, hr, ?_, (Ch.refl (fun k => k = g) w).setRow (fun _ => rfl) _⟩
    rw [setRow_heap w g cur _ te (0, 0) hg]
    simp [bcells_length]

/-- append to a slice of the call's own: where it lies then: in the same block, or in a new one. -/
theorem run_append_own2 {P : Program} (w : World) (t ty e : TypeId) (z : Value) (size bytes : Nat) (ht : P.underlying t = some (.slice e)) (hinfo : (P.info? e).map (fun i => (i.zero, i.size, i.bytes)) = some (some z, size, bytes))
    (hzs : z.cells.size = size) (hsz : 0 < size) (v : Value) (n : Nat) (xs : List Value) (hown : w.ownsRow 0 e size v n xs)
    (a : Addr) (m c : Nat) (news : List Value) (hl : news.length = m * size) (hnews : ∀ j u, news[j]? = some u → w.cell? (a.add j) = some u) (h1 : ∀ u ∈ news, u.oneCell' = true)
    (h63 : n + m ≤ maxLen) (hbytes : (n + m) * bytes ≤ 140737488355328) :
    ∃ v' w', (Builtin.append_ #[t, t] ty #[v, .slice (some a) m c]).run P w = .ok v' w' ∧ w'.ownsRow 0 e size v' (n + m) (xs ++ news) ∧ Ch (fun k => v.ownBlock = some k) w w' ∧
      (v'.ownBlock = v.ownBlock ∨ ∀ k, v'.ownBlock = some k → w.heap.size ≤ k) := by
  obtain ⟨i, hi, hzz⟩ := Option.map_eq_some_iff.1 hinfo
  simp only [Prod.mk.injEq] at hzz
  obtain ⟨hz, hs, hb⟩ := hzz
  have weaken : ∀ {w' : World} {v' : Value} {n' base : Nat} {xs' : List Value}, w'.ownsRow base e size v' n' xs' → w'.ownsRow 0 e size v' n' xs' := by
    intro w' v' n' base xs' h
    refine ⟨h.1, ?_⟩
    rcases h.2 with h | ⟨g, cap, cur, h1, _, r⟩
    · exact .inl h
    · exact .inr ⟨g, cap, cur, h1, Nat.zero_le _, r⟩
  have ch_of : ∀ {w' : World} {row : Option Nat}, w.grownBy w' row → (∀ k, row = some k → v.ownBlock = some k) → Ch (fun k => v.ownBlock = some k) w w' :=
    fun hg hr => (Ch.refl _ w).grown hg (fun k hk _ => hr k hk)
  rcases hown.2 with ⟨rfl, rfl⟩ | ⟨g, cap, cur, rfl, hbg, hg, hnc, hcm, hcs, htake⟩
  · have hown' : w.ownsRow w.heap.size e size (.slice none 0 0) 0 xs := ⟨hown.1, .inl ⟨rfl, rfl⟩⟩
    obtain ⟨v', w', r1, r2, r3, _⟩ := run_append_own (P := P) w w.heap.size t ty e i z size bytes ht hi hz hs hb hzs hsz _ 0 xs hown' a m c news hl hnews h1 h63 hbytes (Nat.le_refl _)
    exact ⟨v', w', r1, weaken r2, ch_of r3 (fun k hk => hk), .inr fun k hk => (r2.lt k hk).1⟩
  · by_cases hroom : n + m ≤ cap
    · have hfit : n * i.size + news.length ≤ cur.size := by rw [hl, hcs, hs, ← Nat.add_mul]; exact Nat.mul_le_mul_right _ hroom
      have hr := run_append_room (P := P) w t ty e i ht hi g n cap cur hg a m c news (by rw [hs]; exact hl) hnews h1 hroom hfit
      refine ⟨_, _, hr, ⟨?_, .inr ⟨g, cap, _, rfl, Nat.zero_le _, setRow_heap w g cur _ e _ hg, hroom, hcm, ?_, ?_⟩⟩, (Ch.refl (fun k => (Value.slice (some ⟨g, 0, none⟩) n cap).ownBlock = some k) w).setRow (fun _ => rfl) _, .inl rfl⟩
      · rw [List.length_append, hown.1, hl, Nat.add_mul]
      · simp only [List.size_toArray, List.length_append, List.length_take, List.length_drop, Array.length_toList]
        omega
      · have hlen : (xs ++ news).length = (n + m) * size := by rw [List.length_append, hown.1, hl, Nat.add_mul]
        rw [hs, htake, ← hlen]
        exact List.take_left
    · have holds : ∀ j u, xs[j]? = some u → w.cell? ((⟨g, 0, none⟩ : Addr).add j) = some u := hown.cells (g := g) rfl
      obtain ⟨v', w', r1, r2, r3⟩ := run_append_arg_grows (P := P) w t ty e i z size bytes ht hi hz hs hb hzs hsz ⟨g, 0, none⟩ n cap xs hown.1 holds a m c news hl hnews (by omega) h63 hbytes
      exact ⟨v', w', r1, weaken r2, ch_of r3 (fun k hk => by cases hk), .inr fun k hk => (r2.lt k hk).1⟩

/-- A region that draws its order: n operations that only read, then others in one forced order. -/
theorem region_tail {P : Program} {id : Nat} {Q : Exit → Act → World → Prop} {a : Act} {w : World} {l : List Oper} (n : Nat) (hm : P.follows .mixedOrders = true) (hB : Region.lexTailB .any l.toArray n = true)
    (h : wpStill P l.toArray w.drew (fun a' => wpList P l.toArray Q (l.drop n) a' w.drew) (l.take n) a) : (Code.region id l.toArray true).wp P Q a w := wp_region_still_tail n hm hB h
/-- A region that draws its order and only reads. -/
theorem region_reads {P : Program} {id : Nat} {Q : Exit → Act → World → Prop} {a : Act} {w : World} {l : List Oper} (hm : P.follows .mixedOrders = true) (hB : Region.lexB .any l.toArray = true)
    (h : wpStill P l.toArray w.drew (fun a' => Q .normal a' w.drew) l a) : (Code.region id l.toArray true).wp P Q a w := wp_region_still_lit hm hB h

end Go.Proofs.Ytadhibemadgcoaa
