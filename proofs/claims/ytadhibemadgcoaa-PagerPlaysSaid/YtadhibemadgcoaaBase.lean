/- Small facts on the world's blocks that all proofs of this seat share. Conditions: none. -/
import Derived.WalkKit
import Derived.WalkSpells
namespace Go.Proofs.Ytadhibemadgcoaa
open Go.RowKit

theorem hid {p : Prop} (h : p) : Hid p := h

theorem wrap_id {n : Int} (h1 : -9223372036854775808 ≤ n) (h2 : n ≤ 9223372036854775807) : IntKind.i64.wrap n = n := by
  rw [IntKind.wrap_i64]; omega
theorem wrap64_id {n : Int} (h1 : -9223372036854775808 ≤ n) (h2 : n ≤ 9223372036854775807) : wrap64 n = n := by
  unfold wrap64; omega

/-- What a call has changed: of the blocks that were there, those in S alone. -/
structure Ch (S : Nat → Prop) (w w' : World) : Prop where
  os : w'.os = w.os
  tape : w'.tape = w.tape
  output : w'.output = w.output
  size : w.heap.size ≤ w'.heap.size
  block : ∀ k, k < w.heap.size → ¬ S k → w'.heap[k]? = w.heap[k]?

section
variable {S T : Nat → Prop} {w w' w'' a : World}
theorem Ch.refl (S : Nat → Prop) (w : World) : Ch S w w := ⟨rfl, rfl, rfl, Nat.le_refl _, fun _ _ _ => rfl⟩
theorem Ch.trans (h : Ch S w w') (k : Ch S w' w'') : Ch S w w'' :=
  ⟨k.os.trans h.os, k.tape.trans h.tape, k.output.trans h.output, Nat.le_trans h.size k.size,
    fun i hi hs => (k.block i (Nat.lt_of_lt_of_le hi h.size) hs).trans (h.block i hi hs)⟩
theorem Ch.mono (h : Ch S w w') (hs : ∀ k, k < w.heap.size → S k → T k) : Ch T w w' := ⟨h.os, h.tape, h.output, h.size, fun k hk ht => h.block k hk (fun s => ht (hs k hk s))⟩
/-- Two steps; the second one may change, besides, what is new since the first. -/
theorem Ch.then (h : Ch S w w') (k : Ch T w' w'') (hs : ∀ i, i < w.heap.size → T i → S i) : Ch S w w'' :=
  ⟨k.os.trans h.os, k.tape.trans h.tape, k.output.trans h.output, Nat.le_trans h.size k.size,
    fun i hi hn => (k.block i (Nat.lt_of_lt_of_le hi h.size) (fun t => hn (hs i hi t))).trans (h.block i hi hn)⟩
theorem Ch.drew (h : Ch S a w) : Ch S a w.drew := ⟨h.os, h.tape, h.output, h.size, h.block⟩
theorem Ch.undrew (h : Ch S w.drew w') : Ch S w w' := ⟨h.os, h.tape, h.output, h.size, h.block⟩
theorem Ch.alloc (h : Ch S a w) (o : Obj) : Ch S a (w.alloc o) :=
  h.trans ⟨rfl, rfl, rfl, by simp, fun k hk _ => Below.heap_alloc _ _ _ hk⟩
theorem Ch.setCell (h : Ch S a w) {p : Addr} (hp : p.block < a.heap.size → S p.block) (u : Value) : Ch S a (w.setCell p u) :=
  h.then (T := fun k => k = p.block) ⟨rfl, rfl, rfl, by simp [World.setCell], fun k _ hk => Below.heap_setCell _ _ _ _ hk⟩ (fun i hi e => by subst e; exact hp hi)
theorem Ch.grown {row : Option Nat} (h : Ch S a w) (hg : w.grownBy w' row) (hr : ∀ k, row = some k → k < a.heap.size → S k) : Ch S a w' :=
  h.then (T := fun k => row = some k) ⟨hg.os, hg.tape, hg.output, hg.size, fun k hk hn => hg.block k hk (fun e => hn e.symm)⟩ (fun i hi e => hr i e hi)
theorem Ch.below {B : Nat} (h : Ch S w w') (hB : B ≤ w.heap.size) (hs : ∀ k, k < B → ¬ S k) : Below B w w' :=
  ⟨h.os, h.tape, h.output, h.size, fun k hk => h.block k (by omega) (hs k hk)⟩
theorem Ch.of_below {B : Nat} (h : Below B w w') : Ch (fun k => B ≤ k) w w' :=
  ⟨h.os, h.tape, h.output, h.size, fun k _ hn => h.block k (by omega)⟩
/-- A block that was there and is not in S. -/
theorem Ch.keep (h : Ch S w w') {k : Nat} {o : Obj} (ho : w.heap[k]? = some o) (hn : ¬ S k) : w'.heap[k]? = some o :=
  (h.block k (Array.getElem?_eq_some_iff.1 ho).1 hn).trans ho
end

section
variable {w : World} {b : Nat} {cs : Array Value} {e : TypeId} {fz : Nat × Nat}
theorem blk_lt {o : Obj} (h : w.heap[b]? = some o) : b < w.heap.size := (Array.getElem?_eq_some_iff.1 h).1
theorem cell_blk (h : w.heap[b]? = some (.cells cs e fz)) (j : Nat) : w.cell? ⟨b, j, none⟩ = cs[j]? := by simp [World.cell?, h]
theorem frozen_blk (h : w.heap[b]? = some (.cells cs e (0, 0))) (j : Nat) : w.frozen? ⟨b, j, none⟩ = false := by simp [World.frozen?, h]
theorem heap_set (h : w.heap[b]? = some (.cells cs e fz)) (j : Nat) (v : Value) : (w.setCell ⟨b, j, none⟩ v).heap[b]? = some (.cells (cs.setIfInBounds j v) e fz) := by
  simp only [World.setCell, Array.getElem?_modify, h]
  simp
theorem heap_set_ne {k : Nat} {o : Obj} {a : Addr} (h : w.heap[k]? = some o) (hne : k ≠ a.block) (v : Value) : (w.setCell a v).heap[k]? = some o := by
  rw [Below.heap_setCell _ _ _ _ hne]; exact h
theorem heap_new (o : Obj) : (w.alloc o).heap[w.heap.size]? = some o := heap_alloc_new w o
theorem heap_old {k : Nat} {o : Obj} (h : w.heap[k]? = some o) (x : Obj) : (w.alloc x).heap[k]? = some o := by
  rw [Below.heap_alloc _ _ _ (blk_lt h)]; exact h
theorem heap_drew {k : Nat} {o : Obj} (h : w.heap[k]? = some o) : w.drew.heap[k]? = some o := h
end

theorem heap_setRow_ne {w : World} {g k : Nat} {cs : Array Value} (h : k ≠ g) : (w.setRow g cs).heap[k]? = w.heap[k]? := setRow_other w g k cs h
@[go_sem] theorem cell_setRow_ne {w : World} {g : Nat} {cs : Array Value} {a : Addr} (h : a.block ≠ g) : (w.setRow g cs).cell? a = w.cell? a := World.cell?_of_block (heap_setRow_ne h)
@[go_sem] theorem frozen_setRow_ne {w : World} {g : Nat} {cs : Array Value} {a : Addr} (h : a.block ≠ g) : (w.setRow g cs).frozen? a = w.frozen? a := World.frozen?_of_block (heap_setRow_ne h)
theorem Ch.setRow {S : Nat → Prop} {a w : World} (h : Ch S a w) {g : Nat} (hp : g < a.heap.size → S g) (cs : Array Value) : Ch S a (w.setRow g cs) :=
  h.then (T := fun k => k = g) ⟨rfl, rfl, rfl, by simp [World.setRow], fun k _ hk => heap_setRow_ne hk⟩ (fun i hi e => by subst e; exact hp hi)

/-- Bytes as cells. -/
def bcells (l : List UInt8) : List Value := l.map fun c => .int .u8 (c.toNat : Int)
theorem bcells_length (l : List UInt8) : (bcells l).length = l.length := by simp [bcells]
theorem bcells_get (l : List UInt8) (j : Nat) (h : j < l.length) : (bcells l)[j]? = some (.int .u8 (l[j].toNat : Int)) := by simp [bcells, h]
theorem bcells_set (l : List UInt8) (j : Nat) (c : UInt8) : (bcells l).toArray.setIfInBounds j (.int .u8 (c.toNat : Int)) = (bcells (l.set j c)).toArray := by
  simp [bcells, List.map_set]
theorem bcells_append (l m : List UInt8) : bcells (l ++ m) = bcells l ++ bcells m := by simp [bcells]
theorem bcells_one {l : List UInt8} : ∀ u ∈ bcells l, u.oneCell' = true := by
  intro u hu
  simp only [bcells, List.mem_map] at hu
  obtain ⟨c, _, rfl⟩ := hu
  rfl

/-- v is a slice of bytes that reads as l. -/
def Bts (w : World) (v : Value) (l : List UInt8) : Prop :=
  (∃ a cap, v = .slice a 0 cap ∧ l = []) ∨ ∃ b off cap cs e fz, v = .slice (some ⟨b, off, none⟩) l.length cap ∧ l.length ≤ cap ∧ w.heap[b]? = some (.cells cs e fz) ∧ ∀ j, (h : j < l.length) → cs[off + j]? = some (.int .u8 (l[j].toNat : Int))
theorem Bts.frame {w w' : World} {v : Value} {l : List UInt8} (h : Bts w v l) (hk : ∀ k, v.ownBlock = some k → w'.heap[k]? = w.heap[k]?) : Bts w' v l := by
  rcases h with h | ⟨b, off, cap, cs, e, fz, rfl, hcap, hb, hc⟩
  · exact .inl h
  · exact .inr ⟨b, off, cap, cs, e, fz, rfl, hcap, (hk b rfl).trans hb, hc⟩
theorem Bts.ch {S : Nat → Prop} {w w' : World} {v : Value} {l : List UInt8} (h : Bts w v l) (hc : Ch S w w') (hn : ∀ k, v.ownBlock = some k → ¬ S k) : Bts w' v l := by
  rcases h with h | ⟨b, off, cap, cs, e, fz, rfl, hcap, hb, hcs⟩
  · exact .inl h
  · exact .inr ⟨b, off, cap, cs, e, fz, rfl, hcap, hc.keep hb (hn b rfl), hcs⟩

/-- append, run as one step of a region that draws its order. -/
theorem step_append_run {P : Program} {ops : Array Oper} {o : Oper} {a : Act} {w : World} {K : Act → World → Prop} {Q : Exit → Act → World → Prop} {E : Prop}
    (hg : o.guard = none) (x y : Operand) (tx ty : TypeId) (hop : o.op = Op.call { callee := Callee.builtin .append, args := #[x, y], argTypes := #[tx, ty] })
    (v : Value) (w' : World) (hrun : (Builtin.append_ #[tx, ty] o.type #[a.eval x, a.eval y]).run P w = .ok v w')
    (hK : K (a.put o.dst v) w') : if Region.wanted o (yielded ops a.tmps) = true then Oper.wp P o a w K Q else E := by
  have hw : Region.wanted o (yielded ops a.tmps) = true := by simp [Region.wanted, hg]
  rw [if_pos hw]
  unfold Oper.wp
  simp [execOp, hop, resolve, invoke, builtin, hrun, Result.andThen]
  exact hK
/-- copy, run as one step of a region that draws its order. -/
theorem step_copy_run {P : Program} {ops : Array Oper} {o : Oper} {a : Act} {w : World} {K : Act → World → Prop} {Q : Exit → Act → World → Prop} {E : Prop}
    (hg : o.guard = none) (x y : Operand) (tx ty : TypeId) (hop : o.op = Op.call { callee := Callee.builtin .copy, args := #[x, y], argTypes := #[tx, ty] })
    (v : Value) (w' : World) (hrun : (Builtin.copy_ #[tx, ty] o.type #[a.eval x, a.eval y]).run P w = .ok v w')
    (hK : K (a.put o.dst v) w') : if Region.wanted o (yielded ops a.tmps) = true then Oper.wp P o a w K Q else E := by
  have hw : Region.wanted o (yielded ops a.tmps) = true := by simp [Region.wanted, hg]
  rw [if_pos hw]
  unfold Oper.wp
  simp [execOp, hop, resolve, invoke, builtin, hrun, Result.andThen]
  exact hK

/-- 'copy(dst, s)' from a string that fits. -/
theorem run_copy_str {P : Program} (w : World) (dT sT ty elem : TypeId) (g o dLen dCap : Nat) (s : ByteArray) (l : List UInt8) (t : TypeId)
    (hu : P.underlying dT = some (.slice elem)) (hs : (P.info? elem).map (·.size) = some 1) (hg : w.heap[g]? = some (.cells (bcells l).toArray t (0, 0))) (hle : s.size ≤ dLen) (hfit : o + s.size ≤ l.length) :
    (Builtin.copy_ #[dT, sT] ty #[.slice (some ⟨g, o, none⟩) dLen dCap, .string s]).run P w =
      .ok (goInt s.size) (w.setRow g (bcells (l.take o ++ s.data.toList ++ l.drop (o + s.size))).toArray) := by
  have hlen : (bcells s.data.toList).length = s.size := by rw [bcells_length]; rfl
  have hst := run_storeCells_at P g o t (bcells s.data.toList) 0 (bcells l).toArray w hg (by rw [hlen]; simpa [bcells_length] using hfit) bcells_one
  have hmin : Nat.min s.size dLen = s.size := Nat.min_eq_left hle
  have htk : List.take s.size (List.map (fun b : UInt8 => Value.int IntKind.u8 (b.toNat : Int)) s.data.toList) = bcells s.data.toList := by
    rw [List.take_of_length_le (by rw [List.length_map]; exact Nat.le_refl _)]
    rfl
  rw [hlen] at hst
  simp only [Nat.add_zero] at hst
  cases hq : P.info? elem with
  | none => simp [hq] at hs
  | some i =>
    simp [Builtin.copy_, run_underlying hu, Builtin.lenOf, Builtin.firstCells, sizeOf, typeInfo, hq, hmin]
    rw [htk, hst]
    simp [Result.andThen, bcells, List.map_take, List.map_drop]

/-- 'make([]T, n)', T of one cell. -/
theorem run_make_n {P : Program} (t e : TypeId) (z : Value) (bytes : Nat) (ht : P.underlying t = some (.slice e)) (hinfo : (P.info? e).map (fun i => (i.zero, i.size, i.bytes)) = some (some z, 1, bytes)) (hz1 : z.cells = #[z])
    (n : Nat) (hbytes : bytes * n ≤ 281474976710656) (h63 : n ≤ 9223372036854775807) (w : World) :
    (Instr.makeSlice t (.int .i64 (n : Int)) (.int .i64 (n : Int))).run P w = .ok (.slice (some ⟨w.heap.size, 0, none⟩) n n) (w.alloc (.cells (madeCells #[z] n) e)) := by
  obtain ⟨i, hi, hzz⟩ := Option.map_eq_some_iff.1 hinfo
  simp only [Prod.mk.injEq] at hzz
  obtain ⟨hz, hs, hb⟩ := hzz
  have hb' : (i.bytes : Int) * (n : Int) ≤ 281474976710656 := by
    have h : ((i.bytes * n : Nat) : Int) ≤ 281474976710656 := by rw [hb]; omega
    rwa [Int.natCast_mul] at h
  have hr := run_make (P := P) w t e i z ht hi hz .i64 .i64 n n (by omega) (Int.le_refl _) hb' (by omega)
  simp only [Int.toNat_natCast, hs, Nat.mul_one, hz1] at hr
  exact hr

theorem beq_str_ne {t s : ByteArray} (h : t.data.toList ≠ s.data.toList) : (t.toList == s.toList) = false := by
  rw [ByteArray.toList_eq, ByteArray.toList_eq]; simpa using h
theorem beq_str_eq {t s : ByteArray} (h : t.data.toList = s.data.toList) : (t.toList == s.toList) = true := by
  rw [ByteArray.toList_eq, ByteArray.toList_eq, h]; exact beq_self_eq_true _
theorem add_plain (b off j : Nat) : (⟨b, off, none⟩ : Addr).add j = ⟨b, off + j, none⟩ := by unfold Addr.add; split <;> simp_all

/-- 'string(b)'. -/
theorem run_string_bts {P : Program} {w : World} {v : Value} {l : List UInt8} (h : Bts w v l) (src e dst : TypeId) (hs : P.underlying src = some (.slice e)) (he : P.underlying e = some (.int .u8)) (hd : P.underlying dst = some .string) :
    (convert src dst v).run P w = .ok (.string ⟨l.toArray⟩) w := by
  rcases h with ⟨a, cap, rfl, rfl⟩ | ⟨b, off, cap, cs, e', fz, rfl, hcap, hb, hc⟩
  · cases a with
    | none => rw [run_convert_bytes_nil (P := P) w src e hs he 0 cap dst hd]; rfl
    | some x =>
      have hl : (loadCells x 0).run P w = .ok (([] : List Int).map (Value.int .u8)).toArray w := by
        have := run_loadCells_list (P := P) w x [] (fun j v hj => by simp at hj)
        simpa using this
      rw [run_convert_bytes_string w src dst e _ 0 cap hs he hd, run_bytesToString w _ 0 cap _ hl]
      rfl
  · have hl : (loadCells ⟨b, off, none⟩ l.length).run P w = .ok ((l.map fun c => (c.toNat : Int)).map (Value.int .u8)).toArray w := by
      have := run_loadCells_list (P := P) w ⟨b, off, none⟩ ((l.map fun c => (c.toNat : Int)).map (Value.int .u8)) (fun j v hj => by
        rw [add_plain, cell_blk hb]
        have hjl : j < l.length := by
          have := (List.getElem?_eq_some_iff.1 hj).1
          simpa using this
        rw [hc j hjl, ← hj]
        simp [hjl])
      simpa using this
    rw [run_convert_bytes_string w src dst e _ l.length cap hs he hd, run_bytesToString w _ l.length cap _ hl, foldl_push_bytes]
    simp [ByteArray.empty, ByteArray.emptyWithCapacity]
    show [] ++ List.map ((fun n : Int => UInt8.ofNat n.toNat) ∘ fun c : UInt8 => (c.toNat : Int)) l = l
    rw [List.nil_append, List.map_congr_left (g := id) (fun c _ => by simp), List.map_id]

/-- append, its run known, as an operation of a list. -/
theorem wpList_append_run {P : Program} {w : World} {ops : Array Oper} {rest : List Oper} {o : Oper} {a : Act} {Q : Exit → Act → World → Prop}
    (hg : o.guard = none) (x y : Operand) (tx ty : TypeId) (hop : o.op = Op.call { callee := Callee.builtin .append, args := #[x, y], argTypes := #[tx, ty] })
    (v : Value) (w' : World) (hrun : (Builtin.append_ #[tx, ty] o.type #[a.eval x, a.eval y]).run P w = .ok v w')
    (hK : wpList P ops Q rest (a.put o.dst v) w') : wpList P ops Q (o :: rest) a w := by
  refine wpList_plain hg fun K hK' => ?_
  unfold Oper.wp
  simp [execOp, hop, resolve, invoke, builtin, hrun, Result.andThen]
  exact hK' _ _ hK

theorem bts_of_owns {w : World} {base : Nat} {v : Value} {n e : Nat} {l : List UInt8} (h : w.ownsRow base e 1 v n (bcells l)) : Bts w v l := by
  have hn : l.length = n := by have := h.1; rw [bcells_length] at this; omega
  rcases h.2 with ⟨rfl, rfl⟩ | ⟨g, cap, cur, rfl, hb, hg, hc, _, hs, ht⟩
  · exact .inl ⟨_, _, rfl, List.eq_nil_of_length_eq_zero hn⟩
  · subst hn
    refine .inr ⟨g, 0, cap, cur, e, (0, 0), rfl, hc, hg, fun j hj => ?_⟩
    have := bcells_get l j hj
    rw [← ht, List.getElem?_take] at this
    rw [if_pos (by omega)] at this
    simpa using this
/-- 'append(v, x...)' of bytes to bytes of the call's own. -/
theorem run_append_bts {P : Program} (w : World) (t ty e : TypeId) (ht : P.underlying t = some (.slice e)) (hinfo : (P.info? e).map (fun i => (i.zero, i.size, i.bytes)) = some (some (.int .u8 0), 1, 1))
    (base : Nat) (v x : Value) (n : Nat) (l m : List UInt8) (hown : w.ownsRow base e 1 v n (bcells l)) (hx : Bts w x m) (hsz : n + m.length ≤ 140737488355328) (hbase : base ≤ w.heap.size) :
    ∃ v' w', (Builtin.append_ #[t, t] ty #[v, x]).run P w = .ok v' w' ∧ w'.ownsRow base e 1 v' (n + m.length) (bcells (l ++ m)) ∧ w.grownBy w' v.ownBlock := by
  obtain ⟨i, hi, hzz⟩ := Option.map_eq_some_iff.1 hinfo
  simp only [Prod.mk.injEq] at hzz
  obtain ⟨hz, hs, hb⟩ := hzz
  have h63 : n + m.length ≤ maxLen := by unfold maxLen; omega
  rcases hx with ⟨a, c, rfl, rfl⟩ | ⟨b, off, cap, cs, e', fz, rfl, hcap, hbk, hc⟩
  · cases a with
    | some x =>
      obtain ⟨v', w', h1, h2, h3, _⟩ := run_append_own (P := P) w base t ty e i (.int .u8 0) 1 1 ht hi hz hs hb rfl (by omega) v n (bcells l) hown x 0 c [] rfl (fun j u h => by simp at h) (by simp) (by simpa using h63) (by simp at hsz ⊢; omega) hbase
      exact ⟨v', w', h1, by simpa using h2, h3⟩
    | none =>
      refine ⟨v, w, ?_, by simpa using hown, World.grownBy.refl _ _⟩
      rcases hown.2 with ⟨rfl, rfl⟩ | ⟨g, cap, cur, rfl, _, _, hcc, _, _, _⟩
      · simp [Builtin.append_, run_underlying ht, sizeOf, typeInfo, hi, Builtin.lenOf, Builtin.firstCells]
      · simp [Builtin.append_, run_underlying ht, sizeOf, typeInfo, hi, Builtin.lenOf, Builtin.firstCells, hcc, storeCells]
  · obtain ⟨v', w', h1, h2, h3, _⟩ := run_append_own (P := P) w base t ty e i (.int .u8 0) 1 1 ht hi hz hs hb rfl (by omega) v n (bcells l) hown ⟨b, off, none⟩ m.length cap (bcells m) (by rw [bcells_length]; omega)
      (fun j u hu => by
        have hj : j < m.length := by have := (List.getElem?_eq_some_iff.1 hu).1; rwa [bcells_length] at this
        rw [add_plain, cell_blk hbk, hc j hj, ← hu, bcells_get m j hj]) bcells_one h63 (by omega) hbase
    exact ⟨v', w', h1, by rw [bcells_append]; exact h2, h3⟩
/-- 'append([]byte{}, x...)'. -/
theorem run_clone_bts {P : Program} (w : World) (t ty e : TypeId) (ht : P.underlying t = some (.slice e)) (hinfo : (P.info? e).map (fun i => (i.zero, i.size, i.bytes)) = some (some (.int .u8 0), 1, 1))
    (x : Value) (m : List UInt8) (hx : Bts w x m) (hsz : m.length ≤ 140737488355328) :
    ∃ v' w', (Builtin.append_ #[t, t] ty #[.slice (some ⟨w.heap.size, 0, none⟩) 0 0, x]).run P (w.alloc (.cells #[] e)) = .ok v' w' ∧ w'.ownsRow w.heap.size e 1 v' m.length (bcells m) ∧ Ch (fun _ => False) w w' := by
  have hx' : Bts (w.alloc (.cells #[] e)) x m := by
    rcases hx with h | ⟨b, off, cap, cs, e', fz, rfl, hcap, hbk, hc⟩
    · exact .inl h
    · exact .inr ⟨b, off, cap, cs, e', fz, rfl, hcap, heap_old hbk _, hc⟩
  have hown : (w.alloc (.cells #[] e)).ownsRow w.heap.size e 1 (.slice (some ⟨w.heap.size, 0, none⟩) 0 0) 0 (bcells []) :=
    ⟨rfl, .inr ⟨w.heap.size, 0, #[], rfl, Nat.le_refl _, heap_new _, Nat.le_refl _, Nat.zero_le _, rfl, rfl⟩⟩
  obtain ⟨v', w', h1, h2, h3⟩ := run_append_bts (P := P) (w.alloc (.cells #[] e)) t ty e ht hinfo w.heap.size _ x 0 [] m hown hx' (by omega) (by simp)
  refine ⟨v', w', h1, by simpa using h2, ((Ch.refl _ w).alloc _).grown h3 (fun k hk hk2 => ?_)⟩
  simp [Value.ownBlock] at hk
  omega

/-- The same in a region that draws its order. -/
theorem run_clone_bts_drew {P : Program} (w : World) (t ty e : TypeId) (ht : P.underlying t = some (.slice e)) (hinfo : (P.info? e).map (fun i => (i.zero, i.size, i.bytes)) = some (some (.int .u8 0), 1, 1))
    (x : Value) (m : List UInt8) (hx : Bts w x m) (hsz : m.length ≤ 140737488355328) :
    ∃ v' w', (Builtin.append_ #[t, t] ty #[.slice (some ⟨w.heap.size, 0, none⟩) 0 0, x]).run P (w.alloc (.cells #[] e)).drew = .ok v' w' ∧ w'.ownsRow w.heap.size e 1 v' m.length (bcells m) ∧ Ch (fun _ => False) w w' := by
  obtain ⟨v', w', h1, h2, h3⟩ := run_clone_bts (P := P) w.drew t ty e ht hinfo x m (hx.frame (fun _ _ => rfl)) hsz
  exact ⟨v', w', h1, h2, h3.undrew⟩

end Go.Proofs.Ytadhibemadgcoaa
