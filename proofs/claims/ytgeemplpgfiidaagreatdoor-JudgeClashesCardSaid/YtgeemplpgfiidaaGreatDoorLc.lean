/- More rules for events: arrays as slices, clear, copy, make, literals, least and greatest. No program in sight. -/
import Derived.Test.YtgeemplpgfiidaaGreatDoorLb
import Derived.Laws.Tables
import Derived.Laws.OwnMore
import Derived.Lib.AppendZerosOnto
import Derived.Laws.StructEq
import Derived.Stop.BytesEq
import Derived.MapKept
import Derived.Laws.IdiomRangeMap
import Derived.Laws.BytesString
namespace Go.Proofs.YtgeemplpgfiidaaGreatDoor.Mv
open Go Go.RowKit

section
variable {P : Program} {w : World}

theorem GetP.max2 {S : World → Prop} {T : Array TypeId} {ty : TypeId} {kd : IntKind} {x y : Int} {k : Value → Prop} (hk : k (.int kd (if y > x then y else x))) :
    GetP P S (Builtin.max_ T ty [.int kd x, .int kd y].toArray) k := ⟨.int kd (if y > x then y else x), fun w _ => by simp [Builtin.max_, Builtin.max2], hk⟩
theorem GetP.min2 {S : World → Prop} {T : Array TypeId} {ty : TypeId} {kd : IntKind} {x y : Int} {k : Value → Prop} (hk : k (.int kd (if y < x then y else x))) :
    GetP P S (Builtin.min_ T ty [.int kd x, .int kd y].toArray) k := ⟨.int kd (if y < x then y else x), fun w _ => by simp [Builtin.min_, Builtin.min2], hk⟩

/-- A whole array, or its end, as a slice. -/
theorem GetP.arr {S : World → Prop} {t n e b : Nat} {k : Value → Prop} (hu : ∀ w, (underlying t).run P w = .ok (.array n e) w) {sz : Nat} (hs : ∀ w, (sizeOf e).run P w = .ok sz w)
    (hk : k (.slice (some ⟨b, 0, none⟩) n n)) : GetP P S (Instr.sliceAt t (.pointer (some ⟨b, 0, none⟩)) none none none) k :=
  ⟨.slice (some ⟨b, 0, none⟩) n n, fun w _ => by simp [Instr.sliceAt, hu, Instr.sureAddr, Instr.sliceBounds, hs, Addr.add], hk⟩
theorem GetP.arrFrom {S : World → Prop} {t n e b i : Nat} {kd : IntKind} {k : Value → Prop} (hu : ∀ w, (underlying t).run P w = .ok (.array n e) w) {sz : Nat} (hs : ∀ w, (sizeOf e).run P w = .ok sz w)
    (hi : i ≤ n) (hk : k (.slice (some ⟨b, if n = i then 0 else i * sz, none⟩) (n - i) (n - i))) : GetP P S (Instr.sliceAt t (.pointer (some ⟨b, 0, none⟩)) (some (.int kd i)) none none) k := by
  refine ⟨_, fun w _ => ?_, hk⟩
  simp [Instr.sliceAt, hu, Instr.sureAddr, Instr.sliceBounds, Instr.sliceBound, asIntOf, hi, hs]
  by_cases h : n = i
  · simp [h]
  · by_cases hz : i * sz = 0
    · simp [h, Addr.add, hz]
    · simp [h, Addr.add, hz]

theorem GetP.arrFromO {S : World → Prop} {t n e b o i : Nat} {kd : IntKind} {k : Value → Prop} (hu : ∀ w, (underlying t).run P w = .ok (.array n e) w) {sz : Nat} (hs : ∀ w, (sizeOf e).run P w = .ok sz w)
    (hi : i ≤ n) (hk : k (.slice (some ⟨b, if n = i then o else o + i * sz, none⟩) (n - i) (n - i))) : GetP P S (Instr.sliceAt t (.pointer (some ⟨b, o, none⟩)) (some (.int kd i)) none none) k := by
  refine ⟨_, fun w _ => ?_, hk⟩
  simp [Instr.sliceAt, hu, Instr.sureAddr, Instr.sliceBounds, Instr.sliceBound, asIntOf, hi, hs]
  by_cases h : n = i
  · simp [h]
  · by_cases hz : i * sz = 0
    · simp [h, Addr.add, hz]
    · simp [h, Addr.add, hz]

theorem Own.seqByte {b : Nat} {l : List UInt8} (h : Own w b (l.map byteV)) : Seq codByte w (.slice (some ⟨b, 0, none⟩) l.length l.length) l :=
  .inr ⟨b, 0, l.length, rfl, Nat.le_refl _, h.lt, by rw [codByte_all]; exact h.cells⟩

/-- The address of an element of a slice in a known block. -/
theorem GetP.idxO {S : World → Prop} {t e b o i c sz : Nat} {len : Nat} {kd : IntKind} {k : Value → Prop} (hu : ∀ w, (underlying t).run P w = .ok (.slice e) w)
    (hs : ∀ w, (sizeOf e).run P w = .ok sz w) (h1 : i < len) (hk : k (.pointer (some ⟨b, o + i * sz, none⟩))) :
    GetP P S (Instr.indexAt t (.slice (some ⟨b, o, none⟩) len c) (.int kd i)) k := by
  refine ⟨_, fun w _ => ?_, hk⟩
  simp [Instr.indexAt, asIntOf, hu, hs, h1]
  by_cases hz : i * sz = 0
  · simp only [Addr.add, hz, if_true, Nat.add_zero]
  · simp only [Addr.add, hz, if_false]
/-- The address of an element of an array. -/
theorem GetP.idxA {S : World → Prop} {t e b o i n sz : Nat} {kd : IntKind} {k : Value → Prop} (hu : ∀ w, (underlying t).run P w = .ok (.array n e) w)
    (hs : ∀ w, (sizeOf e).run P w = .ok sz w) (h1 : i < n) (hk : k (.pointer (some ⟨b, o + i * sz, none⟩))) :
    GetP P S (Instr.indexAt t (.pointer (some ⟨b, o, none⟩)) (.int kd i)) k := by
  refine ⟨_, fun w _ => ?_, hk⟩
  simp [Instr.indexAt, asIntOf, hu, hs, h1, Instr.sureAddr]
  by_cases hz : i * sz = 0
  · simp only [Addr.add, hz, if_true, Nat.add_zero]
  · simp only [Addr.add, hz, if_false]

/-- clear of a slice of bytes in a block of the call's own. -/
theorem RunP.clearB {t ty b o n c : Nat} {cs : List Value} {k : Value → World → Prop} (hu : ∀ w, (underlying t).run P w = .ok (.slice 5) w) (hz : ∀ w, (zeroValue 5).run P w = .ok (.int .u8 0) w)
    (hO : Own w b cs) (hl : o + n ≤ cs.length) (hk : ∀ w', Own w' b (cs.take o ++ List.replicate n (Value.int .u8 0) ++ cs.drop (o + n)) → Upd b w w' → k (.tuple #[]) w') :
    RunP P w (Builtin.clear_ #[t] ty [.slice (some ⟨b, o, none⟩) n c].toArray) k := by
  obtain ⟨T, hO'⟩ := hO
  have hst := run_storeCells_at P b o T (List.replicate n (Value.int .u8 0)) 0 cs.toArray w hO' (by simpa using hl) (by intro v hv; rw [(List.mem_replicate.1 hv).2]; rfl)
  simp only [Nat.add_zero, List.length_replicate] at hst
  have hzc : (Builtin.zeroCells (Value.int .u8 0).cells n).toList = List.replicate n (Value.int .u8 0) := by
    apply List.ext_getElem
    · simp [Builtin.zeroCells, Value.cells]
    · intro i h1 h2; simp [Builtin.zeroCells, Value.cells, Nat.mod_one]
  refine ⟨.tuple #[], _, ?_, hk (w.setRow b (cs.take o ++ List.replicate n (Value.int .u8 0) ++ cs.drop (o + n)).toArray) ⟨T, setRow_heap _ _ _ _ _ _ hO'⟩ (upd_setRow _ _ _)⟩
  cases n with
  | zero =>
    have hw : w.setRow b (cs.take o ++ List.replicate 0 (Value.int .u8 0) ++ cs.drop (o + 0)).toArray = w := by
      have := setRow_self w b cs.toArray T (0, 0) hO'
      simpa using this
    rw [hw]
    simp [Builtin.clear_, hu]
  | succ n =>
    simp [Builtin.clear_, hu, hz, hzc]
    simp at hst
    rw [hst]
    rfl

/-- copy of bytes into a block of the call's own. -/
theorem RunP.copyB {dT sT ty b o dLen dCap : Nat} {src : Value} {l : List UInt8} {cs : List Value} {k : Value → World → Prop} (hu : P.underlying dT = some (.slice 5)) (hs : (P.info? 5).map (·.size) = some 1)
    (hO : Own w b cs) (hx : Seq codByte w src l) (hl : o + min l.length dLen ≤ cs.length)
    (hk : ∀ w', Own w' b (cs.take o ++ (l.take (min l.length dLen)).map byteV ++ cs.drop (o + min l.length dLen)) → Upd b w w' → k (.int .i64 (min l.length dLen : Nat)) w') :
    RunP P w (Builtin.copy_ #[dT, sT] ty [.slice (some ⟨b, o, none⟩) dLen dCap, src].toArray) k := by
  obtain ⟨T, hO'⟩ := hO
  rcases hx with ⟨rfl, rfl⟩ | ⟨sb, so, scap, rfl, hc, hbl, hcells⟩
  · have hr := run_copy_nil (P := P) w dT sT ty 5 ⟨b, o, none⟩ dLen dCap hu (by rw [hs]; rfl)
    have hO : Own w b cs := ⟨T, hO'⟩
    refine ⟨_, _, hr, ?_⟩
    have := hk w (by simpa using hO) (Upd.refl _ _)
    simpa [goInt] using this
  · have hlen : ((l.take (min l.length dLen)).map byteV).length = min l.length dLen := by simp
    have hr := run_copy_row (P := P) w dT sT ty 5 b o dLen dCap ⟨sb, so, none⟩ l.length scap cs.toArray T ((l.take (min l.length dLen)).map byteV) hu hs hO' hlen
      (fun j u hj => by
        rw [Addr.add_lit]
        refine hcells j u ?_
        rw [codByte_all]
        rw [List.getElem?_map] at hj ⊢
        have hlt : j < min l.length dLen := by
          rcases Nat.lt_or_ge j (min l.length dLen) with h | h
          · exact h
          · rw [List.getElem?_eq_none (by simp; omega)] at hj; cases hj
        rwa [List.getElem?_take_of_lt hlt] at hj)
      (by rw [hlen]; simpa using hl) (bytes_one _)
    rw [hlen] at hr
    exact ⟨_, _, hr, hk _ ⟨T, setRow_heap _ _ _ _ _ _ hO'⟩ (upd_setRow _ _ _)⟩

/-- make of n zero elements. -/
theorem RunP.make {t e n bytes size : Nat} {z : Value} {k : Value → World → Prop} {kl kc : IntKind} (hu : P.underlying t = some (.slice e)) (hi : ∃ i, P.info? e = some i ∧ i.zero = some z ∧ i.size = size ∧ i.bytes = bytes)
    (hb : bytes * n ≤ 281474976710656) (hn : n ≤ maxLen)
    (hk : ∀ b w', w.heap.size ≤ b → Own w' b (madeCells z.cells (n * size)).toList → Ext w w' → w'.ownsRow w.heap.size e size (.slice (some ⟨b, 0, none⟩) n n) n (madeCells z.cells (n * size)).toList → k (.slice (some ⟨b, 0, none⟩) n n) w') :
    RunP P w (Instr.makeSlice t (.int kl n) (.int kc n)) k := by
  obtain ⟨i, hi, hz, hs, hby⟩ := hi
  obtain ⟨w', hr, ho, hg⟩ := run_make_full (P := P) w w.heap.size t e i z size hu hi hz hs kl kc n (by rw [hby]; exact hb) hn (Nat.le_refl _)
  refine ⟨_, _, hr, hk _ _ (Nat.le_refl _) ?_ (Ext.of_grown hg) ho⟩
  obtain ⟨hl, ⟨hv, _⟩ | ⟨g, cap, cur, hv, _, hg, hc, hm, hs, ht⟩⟩ := ho
  · cases hv
  · cases hv
    refine ⟨e, ?_⟩
    rw [hg, ← ht, List.take_of_length_le (by simp [hs])]
end

/-! ### Literals -/
def idx (k : Nat) : List Value → List (Nat × Value)
  | [] => []
  | v :: r => (k, v) :: idx (k + 1) r
def cellsOf (vs : List Value) : List Value := vs.flatMap fun v => v.cells.toList

theorem foldl_set (off : Nat) : ∀ (vs : List Value) (k : Nat) (cs : Array Value), off + k + vs.length ≤ cs.size →
    (vs.zipIdx k).foldl (fun (cs : Array Value) (p : Value × Nat) => cs.setIfInBounds (off + p.2) p.1) cs = (cs.toList.take (off + k) ++ vs ++ cs.toList.drop (off + k + vs.length)).toArray
  | [], k, cs, h => by simp
  | v :: r, k, cs, h => by
    simp only [List.length_cons] at h
    simp only [List.zipIdx_cons, List.foldl_cons]
    rw [foldl_set off r (k + 1) (cs.setIfInBounds (off + k) v) (by simp; omega)]
    congr 1
    obtain ⟨A, x, B, hA, hL⟩ : ∃ A x B, A.length = off + k ∧ cs.toList = A ++ x :: B := by
      have hlt : off + k < cs.toList.length := by simp; omega
      exact ⟨cs.toList.take (off + k), cs.toList[off + k], cs.toList.drop (off + k + 1), by rw [List.length_take]; omega, by rw [← List.drop_eq_getElem_cons hlt, List.take_append_drop]⟩
    rw [Array.toList_setIfInBounds, hL, ← hA, show off + (k + 1) = A.length + 1 by omega]
    rw [show (A ++ x :: B).set A.length v = (A ++ [v]) ++ B by simp]
    rw [List.take_left' (by simp), List.take_left' rfl]
    have d1 : (A ++ [v] ++ B).drop (A.length + 1 + r.length) = B.drop r.length := by
      rw [List.drop_append, List.drop_eq_nil_of_le (by simp), List.nil_append]
      congr 1
      simp
    have d2 : (A ++ x :: B).drop (A.length + (v :: r).length) = B.drop r.length := by
      rw [List.drop_append, List.drop_eq_nil_of_le (by simp), List.nil_append]
      rw [show A.length + (v :: r).length - A.length = r.length + 1 by simp, List.drop_succ_cons]
    rw [d1, d2]
    simp

theorem fill_all (place : Nat → Option (Nat × Nat)) : ∀ (vs : List Value) (k off : Nat) (cs : Array Value),
    (∀ j v, vs[j]? = some v → place (k + j) = some (off + (cellsOf (vs.take j)).length, v.cells.size)) → off + (cellsOf vs).length ≤ cs.size →
    Instr.fill place cs (idx k vs) = some (cs.toList.take off ++ cellsOf vs ++ cs.toList.drop (off + (cellsOf vs).length)).toArray
  | [], k, off, cs, _, h => by simp [Instr.fill, idx, cellsOf]
  | v :: r, k, off, cs, hp, h => by
    have h0 := hp 0 v rfl
    have hc : cellsOf (v :: r) = v.cells.toList ++ cellsOf r := rfl
    rw [hc, List.length_append] at h
    simp only [cellsOf, List.take_zero, List.flatMap_nil, List.length_nil, Nat.add_zero] at h0
    simp only [Instr.fill, idx, h0]
    rw [if_neg (by simp at h ⊢; omega)]
    have hf := foldl_set off v.cells.toList 0 cs (by simp at h ⊢; omega)
    have hf' : (v.cells.zipIdx.foldl (fun cs x => match x with | (c, j) => cs.setIfInBounds (off + j) c) cs) = (cs.toList.take off ++ v.cells.toList ++ cs.toList.drop (off + v.cells.toList.length)).toArray := by
      rw [← Array.foldl_toList]
      rw [Array.toList_zipIdx]
      simpa using hf
    rw [hf']
    rw [fill_all place r (k + 1) (off + v.cells.toList.length) _ ?_ ?_]
    · congr 2
      have h1 : (cs.toList.take off).length = off := by simp at h ⊢; omega
      simp only [hc, List.length_append]
      rw [List.take_append, List.length_append, h1, List.take_of_length_le (l := cs.toList.take off ++ v.cells.toList) (by rw [List.length_append, h1]; exact Nat.le_refl _)]
      rw [Nat.sub_self, List.take_zero, List.append_nil]
      rw [List.drop_append, List.length_append, h1, List.drop_eq_nil_of_le (by rw [List.length_append, h1]; omega), List.nil_append, List.drop_drop]
      simp only [List.append_assoc]
      congr 4
      omega
    · intro j u hj
      have := hp (j + 1) u (by simpa using hj)
      rw [show k + (j + 1) = k + 1 + j by omega] at this
      rw [this]
      simp only [List.take_succ_cons]
      rw [show cellsOf (v :: List.take j r) = v.cells.toList ++ cellsOf (List.take j r) from rfl, List.length_append]
      congr 2
      omega
    · simp at h ⊢
      omega

section
variable {P : Program} {w : World}
/-- A slice literal of all its elements. -/
theorem RunP.slice {α : Type} {C : Cod α} {t e : Nat} {vals : List Value} {l : List α} {parts : List (Nat × Value)} {k : Value → World → Prop} (hu : ∀ w, (underlying t).run P w = .ok (.slice e) w)
    (hs : ∀ w, (sizeOf e).run P w = .ok C.size w) {z : Value} (hz : ∀ w, (zeroValue e).run P w = .ok z w) (hzs : z.cells.size = C.size)
    (hp : parts = idx 0 vals) (hv : vals.map (fun v : Value => v.cells.toList) = l.map C.cells) (hn : l.length * C.size ≤ 16777216)
    (hk : ∀ b w', w.heap.size ≤ b → Own w' b (C.all l) → Ext w w' → Seq C w' (.slice (some ⟨b, 0, none⟩) l.length l.length) l → (l ≠ [] → w'.ownsRow w.heap.size e C.size (.slice (some ⟨b, 0, none⟩) l.length l.length) l.length (C.all l)) → k (.slice (some ⟨b, 0, none⟩) l.length l.length) w') :
    RunP P w (Instr.buildSlice t l.length parts.toArray) k := by
  subst hp
  have hc : cellsOf vals = C.all l := by
    unfold cellsOf Cod.all
    rw [List.flatMap_def, List.flatMap_def, hv]
  have hvl : vals.length = l.length := by have := congrArg List.length hv; simpa using this
  have hvi : ∀ (j : Nat) (v : Value), vals[j]? = some v → v.cells.size = C.size := by
    intro j v hj
    have h1 : (vals.map (fun v : Value => v.cells.toList))[j]? = some v.cells.toList := by rw [List.getElem?_map, hj]; rfl
    rw [hv, List.getElem?_map] at h1
    obtain ⟨a, _, ha⟩ := Option.map_eq_some_iff.1 h1
    have := C.len a
    rw [ha] at this
    simpa using this
  have htk : ∀ j, j ≤ vals.length → (cellsOf (vals.take j)).length = j * C.size := by
    intro j
    induction j with
    | zero => intro _; simp [cellsOf]
    | succ j ih =>
      intro hj
      rw [List.take_succ_eq_append_getElem (by omega)]
      have : cellsOf (vals.take j ++ [vals[j]]) = cellsOf (vals.take j) ++ (vals[j]).cells.toList := by unfold cellsOf; rw [List.flatMap_append, List.flatMap_singleton]
      rw [this, List.length_append, ih (by omega)]
      have := hvi j vals[j] (List.getElem?_eq_getElem (by omega))
      simp [this, Nat.add_mul]
  generalize hb0 : ((Array.range (l.length * C.size)).map ((if l.length * C.size = 0 then #[] else z.cells)[· % (if l.length * C.size = 0 then #[] else z.cells).size]!)) = base
  have hbs : base.size = l.length * C.size := by rw [← hb0]; simp
  have hfill := fill_all (fun i => some (i * C.size, C.size)) vals 0 0 base (fun j v hj => by
      rw [htk j (by have := (List.getElem?_eq_some_iff.1 hj).1; omega), hvi j v hj, Nat.zero_add, Nat.zero_add]) (by rw [hc, C.all_len, hbs]; omega)
  rw [hc, Nat.zero_add, C.all_len, ← hbs] at hfill
  simp only [List.take_zero, List.nil_append] at hfill
  rw [List.drop_eq_nil_of_le (by simp), List.append_nil] at hfill
  have hO := own_alloc w (C.all l) e
  have hheap : (w.alloc (.cells (C.all l).toArray e)).heap[w.heap.size]? = some (.cells (C.all l).toArray e (0, 0)) := heap_alloc_new _ _
  refine ⟨.slice (some ⟨w.heap.size, 0, none⟩) l.length l.length, w.alloc (.cells (C.all l).toArray e), ?_, hk _ _ (Nat.le_refl _) hO (ext_alloc _ _) ?_ ?_⟩
  · by_cases h0 : l.length * C.size = 0
    · rw [if_pos h0] at hb0
      simp [Instr.buildSlice, hu, hs, show ¬ (l.length * C.size > 2 ^ 24) by omega, newRow]
      simp [h0] at hb0 ⊢
      rw [hb0]
      simp [hfill]
    · rw [if_neg h0] at hb0
      simp [Instr.buildSlice, hu, hs, show ¬ (l.length * C.size > 2 ^ 24) by omega, h0, hz, newRow]
      rw [show ((Array.range (l.length * C.size)).map fun x => z.cells[x % z.cells.size]!) = base from hb0]
      simp [hfill]
  · exact .inr ⟨_, 0, l.length, rfl, Nat.le_refl _, hO.lt, hO.cells⟩
  · intro hne
    refine ⟨C.all_len l, .inr ⟨w.heap.size, l.length, (C.all l).toArray, rfl, Nat.le_refl _, hheap, Nat.le_refl _, ?_, by simp [C.all_len], by simp [← C.all_len l]⟩⟩
    have := C.pos
    have : l.length * 1 ≤ l.length * C.size := Nat.mul_le_mul_left _ this
    simp only [maxLen]
    omega

/-- A literal of one element. -/
theorem RunP.slice1 {α : Type} {C : Cod α} {t e : Nat} {v : Value} {a : α} {k : Value → World → Prop} (hu : ∀ w, (underlying t).run P w = .ok (.slice e) w)
    (hs : ∀ w, (sizeOf e).run P w = .ok C.size w) {z : Value} (hz : ∀ w, (zeroValue e).run P w = .ok z w) (hzs : z.cells.size = C.size)
    (hv : v.cells.toList = C.cells a) (hn : C.size ≤ 16777216)
    (hk : ∀ b w', w.heap.size ≤ b → Own w' b (C.cells a) → Ext w w' → Seq C w' (.slice (some ⟨b, 0, none⟩) 1 1) [a] → k (.slice (some ⟨b, 0, none⟩) 1 1) w') :
    RunP P w (Instr.buildSlice t 1 [(0, v)].toArray) k :=
  RunP.slice (l := [a]) (vals := [v]) hu hs hz hzs rfl (by simp [hv]) (by simpa using hn) fun b w' h1 h2 h3 h4 _ => hk b w' h1 (by simpa [Cod.all] using h2) h3 h4

/-- A struct or an array built whole. -/
theorem GetP.build {S : World → Prop} {t : Nat} {parts : List (Nat × Value)} {cells : Array Value} {k : Value → Prop} (h : P.built t parts = some cells) (hk : k (.agg cells)) :
    GetP P S (Instr.build t parts.toArray) k :=
  ⟨_, fun w _ => run_build (P := P) w t parts.toArray cells (by simpa using h), hk⟩
/-- The places of values that lie one behind another. -/
def offs (o : Nat) : List Nat → List (Nat × Nat)
  | [] => []
  | s :: r => (o, s) :: offs (o + s) r
theorem offs_get : ∀ (vals : List Value) (o j : Nat) (v : Value), vals[j]? = some v → (offs o (vals.map fun v => v.cells.size))[j]? = some (o + (cellsOf (vals.take j)).length, v.cells.size)
  | [], _, _, _, h => by simp at h
  | u :: r, o, 0, v, h => by
    simp at h
    subst h
    simp [offs, cellsOf]
  | u :: r, o, j + 1, v, h => by
    have := offs_get r (o + u.cells.size) j v (by simpa using h)
    simp only [List.map_cons, offs, List.getElem?_cons_succ, this, List.take_succ_cons]
    rw [show cellsOf (u :: List.take j r) = u.cells.toList ++ cellsOf (List.take j r) from rfl, List.length_append]
    simp
    omega
/-- A struct whose first fields are given, one after another. -/
theorem GetP.buildS {S : World → Prop} {t : Nat} {parts : List (Nat × Value)} {k : Value → Prop} {places : List (Nat × Nat)} {zs vals : List Value}
    (hb : ∀ parts, P.built t parts = Instr.fill (fun i => places.toArray[i]?) zs.toArray parts) (hp : parts = idx 0 vals)
    (hs : places.take vals.length = offs 0 (vals.map fun v => v.cells.size)) (hl : (cellsOf vals).length ≤ zs.length)
    (hk : k (.agg (cellsOf vals ++ zs.drop (cellsOf vals).length).toArray)) : GetP P S (Instr.build t parts.toArray) k := by
  refine GetP.build ?_ hk
  rw [hb, hp, fill_all _ vals 0 0 zs.toArray ?_ (by simpa using hl)]
  · simp
  · intro j v hj
    rw [Nat.zero_add]
    have h1 := offs_get vals 0 j v hj
    rw [← hs] at h1
    have hlt : j < vals.length := by
      rcases Nat.lt_or_ge j vals.length with h | h
      · exact h
      · rw [List.getElem?_eq_none h] at hj; cases hj
    rw [List.getElem?_take_of_lt hlt] at h1
    simpa using h1
end
end Go.Proofs.YtgeemplpgfiidaaGreatDoor.Mv
/- More rules: slices of the call's own that are written, append of zeros, slices cut in a known block. No program in sight. -/
namespace Go.Proofs.YtgeemplpgfiidaaGreatDoor.Mv
open Go Go.RowKit

theorem Cod.all_take {α : Type} (C : Cod α) (l : List α) (i : Nat) : C.all (l.take i) = (C.all l).take (i * C.size) := by
  rcases Nat.lt_or_ge i l.length with h | h
  · have h1 : C.all l = C.all (l.take i) ++ C.all (l.drop i) := by rw [← Cod.all_append, List.take_append_drop]
    rw [h1, List.take_left' (by rw [C.all_len, List.length_take, Nat.min_eq_left (Nat.le_of_lt h)])]
  · rw [List.take_of_length_le h, List.take_of_length_le (by rw [C.all_len]; exact Nat.mul_le_mul_right _ h)]
theorem Cod.all_drop {α : Type} (C : Cod α) (l : List α) (i : Nat) : C.all (l.drop i) = (C.all l).drop (i * C.size) := by
  rcases Nat.lt_or_ge i l.length with h | h
  · have h1 : C.all l = C.all (l.take i) ++ C.all (l.drop i) := by rw [← Cod.all_append, List.take_append_drop]
    rw [h1, List.drop_left' (by rw [C.all_len, List.length_take, Nat.min_eq_left (Nat.le_of_lt h)])]
  · rw [List.drop_eq_nil_of_le h, List.drop_eq_nil_of_le (by rw [C.all_len]; exact Nat.mul_le_mul_right _ h)]
    rfl
theorem Cod.all_set {α : Type} (C : Cod α) (l : List α) (i : Nat) (a : α) (h : i < l.length) : C.all (l.set i a) = (C.all l).take (i * C.size) ++ C.cells a ++ (C.all l).drop ((i + 1) * C.size) := by
  rw [List.set_eq_take_append_cons_drop, if_pos h, Cod.all_append, ← C.all_take, ← C.all_drop]
  simp [Cod.all]

section
variable {P : Program} {w : World}
theorem DoP.stG {agg : Bool} {α : Type} {C : Cod α} {t e base n cap b i : Nat} {l : List α} {a : α} {v : Value} {k : Value → World → Prop} (ht : TyF P t agg C.size)
    (hg : Grow C e base w (.slice (some ⟨b, 0, none⟩) n cap) l) (hi : i < l.length) (hv : v.cells = (C.cells a).toArray)
    (hk : ∀ w', Grow C e base w' (.slice (some ⟨b, 0, none⟩) n cap) (l.set i a) → Upd b w w' → k undef w') :
    DoP P w (Instr.storeAt t (.pointer (some ⟨b, 0 + i * C.size, none⟩)) v) k := by
  obtain ⟨hl, ⟨h, _⟩ | ⟨g, cp, cur, hvv, hb', hh, hc, hm, hs, ht'⟩⟩ := hg
  · cases h
  cases hvv
  have h1 : (i + 1) * C.size ≤ l.length * C.size := Nat.mul_le_mul_right _ hi
  have h2 : l.length * C.size ≤ cap * C.size := Nat.mul_le_mul_right _ hc
  have h3 : (i + 1) * C.size = i * C.size + C.size := by rw [Nat.add_mul, Nat.one_mul]
  have hcl := C.len a
  have hst := run_storeCells_at P b (i * C.size) e (C.cells a) 0 cur w hh (by rw [hcl, hs]; omega) (C.one a)
  rw [Nat.add_zero, hcl] at hst
  refine ⟨_, ?_, hk (w.setRow b (cur.toList.take (i * C.size) ++ C.cells a ++ cur.toList.drop (i * C.size + C.size)).toArray) ?_ (upd_setRow _ _ _)⟩
  · simp only [Instr.storeAt, Instr.sureAddr, storeVar, Nat.zero_add]
    simp [ht.size, hv, C.len]
    simpa using hst
  · refine ⟨by rw [Cod.all_len], .inr ⟨b, cap, _, by rw [List.length_set], hb', setRow_heap _ _ _ _ _ _ hh, by rw [List.length_set]; exact hc, hm, ?_, ?_⟩⟩
    · rw [List.size_toArray, List.length_append, List.length_append, List.length_take, List.length_drop, Array.length_toList, hcl, hs]; omega
    · rw [List.length_set, C.all_set l i a hi, ← ht']
      have e1 : (cur.toList.take (i * C.size)).length = i * C.size := by rw [List.length_take, Array.length_toList, hs]; omega
      simp only []
      rw [List.take_append, List.take_append, e1, List.take_of_length_le (l := cur.toList.take (i * C.size)) (by rw [e1]; omega), List.take_of_length_le (l := C.cells a) (by rw [hcl]; omega)]
      rw [List.length_append, e1, hcl, List.take_take, Nat.min_eq_left (by omega), List.drop_take, h3]

theorem made_grow {α : Type} {C : Cod α} {e base n size : Nat} {z v : Value} {a : α} {w' : World} (hs : size = C.size) (hz : z.cells = (C.cells a).toArray) (h : w'.ownsRow base e size v n (madeCells z.cells (n * size)).toList) :
    Grow C e base w' v (List.replicate n a) := by
  subst hs
  have he : (madeCells z.cells (n * C.size)).toList = C.all (List.replicate n a) := by
    rw [hz]
    have hlen := C.len a
    have : ∀ n, (madeCells (C.cells a).toArray (n * C.size)).toList = C.all (List.replicate n a) := by
      intro n
      apply List.ext_getElem
      · simp [madeCells, C.all_len]
      · intro i h1 h2
        have hi : i < n * C.size := by simpa [madeCells] using h1
        have hp := C.pos
        have hq : i / C.size < n := by rw [Nat.div_lt_iff_lt_mul hp]; exact hi
        have hsp := C.split (l := List.replicate n a) (i := i / C.size) (by simpa using hq)
        have hm := Nat.mod_lt i hp
        have hdm := Nat.div_add_mod i C.size
        have e1 : (C.all ((List.replicate n a).take (i / C.size))).length = i / C.size * C.size := by rw [C.all_len]; simp; rw [Nat.min_eq_left (Nat.le_of_lt hq)]
        have : (C.all (List.replicate n a))[i]? = (C.cells a)[i % C.size]? := by
          rw [hsp, List.append_assoc, List.getElem?_append_right (by rw [e1, Nat.mul_comm]; omega), List.getElem?_append_left (by rw [e1, C.len, Nat.mul_comm]; omega), e1]
          rw [List.getElem_replicate]
          congr 1
          rw [Nat.mul_comm]
          omega
        rw [List.getElem?_eq_getElem h2] at this
        rw [List.getElem?_eq_getElem (by rw [hlen]; exact hm)] at this
        have := Option.some.inj this
        rw [this]
        simp [madeCells, hlen]
        rw [List.getElem?_eq_getElem (by rw [hlen]; exact hm)]
        rfl
    exact this n
  unfold Grow
  rw [List.length_replicate, ← he]
  exact h

/-- append(nil, make([]T, n)...) -/
theorem RunP.appendZ {α : Type} {C : Cod α} {t tn e bytes ty n : Nat} {k : Value → World → Prop} (hE : ElF P t e C bytes) (htn : P.underlying tn = some (.int .i64)) (h0 : 0 < n)
    (hn : n ≤ maxLen) (hb : n * bytes ≤ 140737488355328)
    (hk : ∀ b cap w', w.heap.size ≤ b → n ≤ cap → Grow C e w.heap.size w' (.slice (some ⟨b, 0, none⟩) 0 cap) [] → Ext w w' → k (.slice (some ⟨b, 0, none⟩) n cap) w') :
    RunP P w (Builtin.append_ #[t, tn] ty [.slice none 0 0, .int .i64 n].toArray) k := by
  obtain ⟨i, z, hi, hz, hs, hby, hzs⟩ := hE.info
  have hfit : Builtin.nextslicecap (0 + n) 0 * i.bytes ≤ 281474976710656 := growslice_fits (by omega) (by rw [Nat.zero_add, hby]; exact hb)
  have hr := Lib.run_append_grow_zeros w t tn ty e i z .i64 .i64 hE.und htn hi hz none 0 0 [] (by rfl) n h0 (by rw [hs]; exact C.pos) (by omega) (by simp only [maxLen] at hn; omega) (by rw [hby]; omega) hfit
  rw [Nat.zero_add] at hr
  have hge := grownCap_ge w n 0 e
  have hle := grownCap_le_maxLen w n 0 e hn
  refine ⟨_, _, hr, hk w.heap.size _ _ (Nat.le_refl _) hge ?_ ?_⟩
  · refine ⟨by simp [Cod.all], .inr ⟨w.heap.size, _, _, rfl, Nat.le_refl _, by rw [show w.heap.size = w.drew.heap.size from rfl, heap_alloc_new], Nat.zero_le _, hle, ?_, by simp [Cod.all]⟩⟩
    simp [Builtin.zeroCells, hzs]
    rw [← Nat.add_mul]
    congr 1
    omega
  · exact (Ext.drew w).trans (ext_alloc _ _)

/-- The first elements of a slice in a known block. -/
theorem GetP.cutHi {S : World → Prop} {t e b o n c j sz : Nat} {kd : IntKind} {k : Value → Prop} (hu : ∀ w, (underlying t).run P w = .ok (.slice e) w)
    (hs : ∀ w, (sizeOf e).run P w = .ok sz w) (hj : j ≤ c) (hk : k (.slice (some ⟨b, o, none⟩) j c)) :
    GetP P S (Instr.sliceAt t (.slice (some ⟨b, o, none⟩) n c) none (some (.int kd j)) none) k := by
  refine ⟨_, fun w _ => ?_, hk⟩
  simp [Instr.sliceAt, Instr.slice, hu, Instr.sliceBounds, Instr.sliceBound, asIntOf, hs, hj]
  by_cases hc : c = 0
  · simp [hc]
  · simp [Addr.add]
theorem GetP.capS {S : World → Prop} {t e n c : Nat} {a : Option Addr} {k : Value → Prop} (hu : ∀ w, (underlying t).run P w = .ok (.slice e) w) (hk : k (.int .i64 c)) : GetP P S (Builtin.cap_ #[t] 0 [.slice a n c].toArray) k :=
  ⟨_, fun w _ => by simp [Builtin.cap_, hu, goInt], hk⟩
/-- The first elements of a slice of the call's own. -/
theorem Grow.cut {α : Type} {C : Cod α} {e base b n cap : Nat} {l : List α} (hg : Grow C e base w (.slice (some ⟨b, 0, none⟩) n cap) l) {j : Nat} (hj : j ≤ l.length) :
    Grow C e base w (.slice (some ⟨b, 0, none⟩) j cap) (l.take j) := by
  obtain ⟨hl, ⟨h, _⟩ | ⟨g, cp, cur, hvv, hb', hh, hc, hm, hs, ht'⟩⟩ := hg
  · cases h
  cases hvv
  have hlen : (l.take j).length = j := by simp; omega
  refine ⟨by rw [Cod.all_len], .inr ⟨b, cap, cur, by rw [hlen], hb', hh, by rw [hlen]; omega, hm, hs, ?_⟩⟩
  rw [hlen, C.all_take, ← ht', List.take_take, Nat.min_eq_left (Nat.mul_le_mul_right _ hj)]
theorem GetP.cutG {S : World → Prop} {α : Type} {C : Cod α} {t e base j : Nat} {kd : IntKind} {v : Value} {l : List α} {k : Value → Prop} (hg : Grow C e base w v l) (hu : ∀ w, (underlying t).run P w = .ok (.slice e) w)
    (hs : ∀ w, (sizeOf e).run P w = .ok C.size w) (hj : j ≤ l.length) (hk : ∀ v', Grow C e base w v' (l.take j) → (∀ b, inBlock v' b → inBlock v b) → k v') :
    GetP P S (Instr.sliceAt t v none (some (.int kd j)) none) k := by
  have hg0 := hg
  obtain ⟨hl, ⟨rfl, h0⟩ | ⟨g, cp, cur, rfl, hb', hh, hc, hm, hsz, ht'⟩⟩ := hg0
  · have hl0 : l = [] := List.eq_nil_of_length_eq_zero h0
    subst hl0
    have hj0 : j = 0 := by simpa using hj
    subst hj0
    exact GetP.subS (Seq.nil C w) hu hs 0 0 (.inl ⟨rfl, rfl⟩) (.inr ⟨_, rfl⟩) (Nat.le_refl _) (Nat.le_refl _) fun v' hv' hb => by
      have hv0 : v' = .slice none 0 0 := by
        rcases hv' with ⟨h, _⟩ | ⟨b, o, cap, h, _⟩
        · exact h
        · obtain ⟨_, _, _, h⟩ := hb b ⟨o, _, cap, h⟩
          cases h
      subst hv0
      exact hk _ (by simpa using Grow.nil C e base w) hb
  · exact GetP.cutHi hu hs (by omega) (hk _ (hg.cut hj) (fun b ⟨o, n, c, h⟩ => by cases h; exact ⟨_, _, _, rfl⟩))
end
end Go.Proofs.YtgeemplpgfiidaaGreatDoor.Mv
/- Maps: keys that are compared, what a map holds, and the rules for the events that read and write one. No program in sight. -/
namespace Go.Proofs.YtgeemplpgfiidaaGreatDoor.Mv
open Go Go.RowKit

/-! ### Values that are compared -/
structure EqT (P : Program) (t lvl : Nat) {α : Type} [DecidableEq α] (val : α → Value) : Prop where
  eq : ∀ d, lvl ≤ d → ∀ a b w, (Op.equalIn d t (val a) (val b)).run P w = .ok (decide (a = b)) w
  check : ∀ d em, lvl ≤ d → ∀ a w, (Instr.checkKey em d t (val a)).run P w = .ok () w

section
variable {P : Program}

theorem EqT.mono {t lvl lvl' : Nat} {α : Type} [DecidableEq α] {val : α → Value} (h : EqT P t lvl val) (hl : lvl ≤ lvl') : EqT P t lvl' val :=
  ⟨fun d hd => h.eq d (by omega), fun d em hd => h.check d em (by omega)⟩

theorem EqT.int {t : Nat} {kd : IntKind} (hu : P.underlying t = some (.int kd)) : EqT P t 1 (fun n : Nat => Value.int kd n) := by
  refine ⟨fun d hd a b w => ?_, fun d em hd a w => ?_⟩
  · obtain ⟨d, rfl⟩ : ∃ m, d = m + 1 := ⟨d - 1, by omega⟩
    rw [run_equalIn_int w d t kd kd _ _ hu]
    congr 1
    rw [Bool.eq_iff_iff]
    simp
    omega
  · obtain ⟨d, rfl⟩ : ∃ m, d = m + 1 := ⟨d - 1, by omega⟩
    simp [Instr.checkKey, run_underlying hu]

theorem EqT.hash {t e : Nat} (ht : P.underlying t = some (.array 32 e)) (he : P.underlying e = some (.int .u8)) (hsz : ∀ w, (sizeOf e).run P w = .ok 1 w) : EqT P t 2 H.val := by
  refine ⟨fun d hd a b w => ?_, fun d em hd a w => ?_⟩
  · obtain ⟨d, rfl⟩ : ∃ m, d = m + 2 := ⟨d - 2, by omega⟩
    have := run_equalIn_bytes w d t e 32 ht he hsz a.1 b.1 a.2 b.2
    have h2 : (a.1 == b.1) = decide (a = b) := by
      rw [Bool.eq_iff_iff]; simp [Subtype.ext_iff]
    rw [← h2]
    exact this
  · obtain ⟨d, rfl⟩ : ∃ m, d = m + 2 := ⟨d - 2, by omega⟩
    have hlen : ((H.cells a).toArray).size = 32 := by simp [H.len]
    rw [H.val, Instr.checkKey]
    simp only [Sem.run_bind, run_underlying ht, Result.andThen_ok, Std.Legacy.Range.forIn_eq_forIn_range', Std.Legacy.Range.size, Nat.sub_zero, Nat.add_sub_cancel, Nat.div_one]
    have hl : ∀ i ∈ List.range' 0 32 1, i < 32 := fun i hi => by simpa using (List.mem_range'_1.1 hi).2
    generalize List.range' 0 32 1 = l at hl ⊢
    induction l with
    | nil => simp
    | cons i l ih =>
      have hi : i < 32 := hl i (by simp)
      have hx : (H.cells a).toArray[i * 1]? = some (byteV (a.1[i]'(by rw [a.2]; exact hi))) := by
        simp [H.cells, List.getElem?_eq_getElem (show i < a.1.length by rw [a.2]; exact hi)]
      have px : (part e (H.cells a).toArray (i * 1)).run P w = .ok (byteV (a.1[i]'(by rw [a.2]; exact hi))) w := by
        simp only [part, isAgg, Sem.run_bind, run_underlying he, Result.andThen_ok, hx]
        simp
      have pc : (Instr.checkKey em (d + 1) e (byteV (a.1[i]'(by rw [a.2]; exact hi)))).run P w = .ok () w := by
        simp [Instr.checkKey, run_underlying he, byteV]
      simp only [List.forIn_cons, Sem.run_bind, hsz, px, pc, Result.andThen_ok, Sem.run_pure]
      exact ih fun j hj => hl j (by simp [hj])

/-- A part of a struct. -/
theorem run_part_one {w : World} {t n off : Nat} {cs : List Value} {v : Value} (ht : TyF P t false n) (h : cs[off]? = some v) : (part t cs.toArray off).run P w = .ok v w := by
  simp [part, ht.agg, h]
theorem run_part_agg {w : World} {t n : Nat} {pre mid post : List Value} (ht : TyF P t true n) (h : mid.length = n) : (part t (pre ++ mid ++ post).toArray pre.length).run P w = .ok (.agg mid.toArray) w := by
  subst h
  simp [part, ht.agg, ht.size, List.extract]

/-- A struct of two fields. -/
theorem EqT.pair {t t0 t1 l0 l1 : Nat} {α β γ : Type} [DecidableEq α] [DecidableEq β] [DecidableEq γ] {v0 : α → Value} {v1 : β → Value} {v : γ → Value} {p0 : γ → α} {p1 : γ → β} {f0 f1 : Field} {cs : γ → List Value}
    (hu' : P.underlying t = some (.struct #[f0, f1])) (hp : P.stoodInHeld t = false)
    (hn : f0.name ≠ "_" ∧ f1.name ≠ "_") (ht : f0.type = t0 ∧ f1.type = t1)
    (hv : ∀ c, v c = .agg (cs c).toArray)
    (h0 : ∀ c w, (part t0 (cs c).toArray f0.offset).run P w = .ok (v0 (p0 c)) w) (h1 : ∀ c w, (part t1 (cs c).toArray f1.offset).run P w = .ok (v1 (p1 c)) w)
    (hinj : ∀ c d, c = d ↔ p0 c = p0 d ∧ p1 c = p1 d)
    (E0 : EqT P t0 l0 v0) (E1 : EqT P t1 l1 v1) : EqT P t (max l0 l1 + 1) v := by
  obtain ⟨rfl, rfl⟩ := ht
  have hf : P.fieldsOf t = #[f0, f1] := by simp [Program.fieldsOf, hu']
  have hu : P.underlying t = some (.struct (P.fieldsOf t)) := by rw [hf]; exact hu'
  refine ⟨fun d hd a b w => ?_, fun d em hd a w => ?_⟩
  · obtain ⟨d, rfl⟩ : ∃ m, d = m + 1 := ⟨d - 1, by omega⟩
    rw [hv, hv, run_equalIn_struct w d t _ _ hu hp, hf]
    simp only [Op.eqFields, hn.1, hn.2, ne_eq, not_false_eq_true, if_true, Sem.run_bind, h0, h1, Result.andThen_ok, E0.eq d (by omega), E1.eq d (by omega)]
    by_cases e0 : p0 a = p0 b
    · by_cases e1 : p1 a = p1 b
      · have := (hinj a b).2 ⟨e0, e1⟩
        simp [e0, e1, this, h1, E1.eq d (by omega)]
      · have : ¬ a = b := fun e => e1 ((hinj a b).1 e).2
        simp [e0, e1, this, h1, E1.eq d (by omega)]
    · have : ¬ a = b := fun e => e0 ((hinj a b).1 e).1
      simp [e0, this]
  · obtain ⟨d, rfl⟩ : ∃ m, d = m + 1 := ⟨d - 1, by omega⟩
    rw [hv, Instr.checkKey]
    simp [run_underlying hu', hn.1, hn.2, h0, h1, E0.check d em (by omega), E1.check d em (by omega)]

theorem EqP.eql {S : World → Prop} {t lvl : Nat} {x y : Operand} {α : Type} [DecidableEq α] {val : α → Value} {k : Bool → Prop} (E : EqT P t lvl val) (hl : lvl ≤ 10000) (hm : P.eqGuardType P.depth t = false) {cs : α → List Value}
    (hv : ∀ a, val a = .agg (cs a).toArray) (a b : α) (hk : k (decide (a = b))) : EqP P S .eql t x y (val a) (val b) k := by
  refine ⟨decide (a = b), fun w _ => ⟨?_, ?_⟩, hk⟩
  · rw [hv, hv]; exact run_eqGuard_agg w _ t x y _ _ hm
  · have h := E.eq 10000 hl a b w
    rw [hv, hv] at h ⊢
    rw [run_eql_struct, h]; rfl
theorem EqP.neq {S : World → Prop} {t lvl : Nat} {x y : Operand} {α : Type} [DecidableEq α] {val : α → Value} {k : Bool → Prop} (E : EqT P t lvl val) (hl : lvl ≤ 10000) (hm : P.eqGuardType P.depth t = false) {cs : α → List Value}
    (hv : ∀ a, val a = .agg (cs a).toArray) (a b : α) (hk : k (!decide (a = b))) : EqP P S .neq t x y (val a) (val b) k := by
  refine ⟨!decide (a = b), fun w _ => ⟨?_, ?_⟩, hk⟩
  · rw [hv, hv]; exact run_eqGuard_agg w _ t x y _ _ hm
  · have h := E.eq 10000 hl a b w
    rw [hv, hv] at h ⊢
    rw [run_neq_struct, h]; rfl

/-! ### Keys -/
def findA {α β : Type} [DecidableEq α] (a : α) : List (α × β) → Nat → Option (Nat × β)
  | [], _ => none
  | p :: r, i => if a = p.1 then some (i, p.2) else findA a r (i + 1)

def getA {α β : Type} [DecidableEq α] (a : α) : List (α × β) → Option β
  | [] => none
  | p :: r => if a = p.1 then some p.2 else getA a r
def setA {α β : Type} [DecidableEq α] (a : α) (v : β) : List (α × β) → List (α × β)
  | [] => [(a, v)]
  | p :: r => if a = p.1 then (a, v) :: r else p :: setA a v r

theorem findA_get {α β : Type} [DecidableEq α] (a : α) : ∀ (l : List (α × β)) (i : Nat), (findA a l i).map (·.2) = getA a l
  | [], _ => rfl
  | p :: r, i => by
    simp only [findA, getA]
    split
    · rfl
    · exact findA_get a r (i + 1)
theorem findA_none {α β : Type} [DecidableEq α] (a : α) (v : β) : ∀ (l : List (α × β)) (i : Nat), findA a l i = none → setA a v l = l ++ [(a, v)] ∧ getA a l = none
  | [], _, _ => ⟨rfl, rfl⟩
  | p :: r, i, h => by
    simp only [findA] at h
    split at h
    · cases h
    · rename_i hne
      obtain ⟨h1, h2⟩ := findA_none a v r (i + 1) h
      simp [setA, getA, hne, h1, h2]
theorem findA_some {α β : Type} [DecidableEq α] (a : α) (v : β) : ∀ (l : List (α × β)) (i : Nat) (q : Nat × β), findA a l i = some q → i ≤ q.1 ∧ l[q.1 - i]? = some (a, q.2) ∧ setA a v l = l.set (q.1 - i) (a, v)
  | [], _, _, h => by cases h
  | p :: r, i, q, h => by
    simp only [findA] at h
    split at h
    · rename_i he
      cases h
      subst he
      simp [setA]
    · rename_i hne
      obtain ⟨h1, h2, h3⟩ := findA_some a v r (i + 1) q h
      have : q.1 - i = (q.1 - (i + 1)) + 1 := by omega
      refine ⟨by omega, by rw [this]; simpa using h2, ?_⟩
      rw [this]
      simp [setA, hne, h3]

/-- A type whose values are keys. -/
structure KeyT (P : Program) (t : Nat) {α : Type} [DecidableEq α] (val : α → Value) : Prop where
  check : ∀ em a w, (Instr.checkKey em 10000 t (val a)).run P w = .ok () w
  find : ∀ a (es : List MapEntry) (l : List (α × Value)) w, es.map (fun e => (e.key, e.val)) = l.map (fun p => (val p.1, p.2)) → (Instr.findKey t (val a) es).run P w = .ok (findA a l 0) w
  stays : ∀ a w, (Instr.keyThatStays (val a) (val a)).run P w = .ok (val a) w

theorem find_asking {t lvl : Nat} {α : Type} [DecidableEq α] {val : α → Value} (E : EqT P t lvl val) (hl : lvl ≤ 10000) (a : α) : ∀ (es : List MapEntry) (l : List (α × Value)) (i : Nat) (w : World),
    es.map (fun e => (e.key, e.val)) = l.map (fun p => (val p.1, p.2)) → (Instr.findAsking t (val a) es i).run P w = .ok (findA a l i) w
  | [], [], _, _, _ => rfl
  | [], _ :: _, _, _, h => by cases h
  | _ :: _, [], _, _, h => by cases h
  | e :: es, p :: l, i, w, h => by
    simp only [List.map_cons, List.cons.injEq, Prod.mk.injEq] at h
    obtain ⟨⟨hk, hv⟩, h⟩ := h
    have := E.eq 10000 hl a p.1 w
    simp only [Instr.findAsking, Op.equal, Op.maxDepth, hk, Sem.run_bind, this, Result.andThen_ok, findA]
    by_cases he : a = p.1
    · simp [he, hv]
    · simp only [he, decide_false, Bool.false_eq_true, if_false]
      exact find_asking E hl a es l (i + 1) w h

theorem KeyT.wide {t lvl : Nat} {α : Type} [DecidableEq α] {val : α → Value} (E : EqT P t lvl val) (hl : lvl ≤ 10000)
    (hwide : (match P.underlying t with | some (.array _ _) | some (.struct _) => true | _ => false) = true)
    (hst : ∀ a, Instr.sameBits 10000 (val a) (val a) = true) : KeyT P t val := by
  refine ⟨fun em a w => E.check 10000 em hl a w, fun a es l w h => ?_, fun a w => ?_⟩
  · have : (Instr.findKey t (val a) es).run P w = (Instr.findAsking t (val a) es).run P w := by
      cases hu : P.underlying t with
      | none => simp [hu] at hwide
      | some kd =>
        have hv : es = [] ∨ ∃ e r, es = e :: r := by cases es <;> simp
        rcases hv with rfl | ⟨e, r, rfl⟩
        · simp [Instr.findKey, run_underlying hu, Instr.findNow, Instr.findAsking]
        · cases kd <;> simp [hu] at hwide <;> simp [Instr.findKey, run_underlying hu, Instr.findNow, Instr.sameNow]
    rw [this]
    exact find_asking E hl a es l 0 w h
  · simp [Instr.keyThatStays, hst]

theorem find_now {kd : IntKind} (a : Nat) : ∀ (es : List MapEntry) (l : List (Nat × Value)) (i : Nat), es.map (fun e => (e.key, e.val)) = l.map (fun p => (Value.int kd p.1, p.2)) → Instr.findNow (.int kd) (.int kd a) es i = some (findA a l i)
  | [], [], _, _ => rfl
  | [], _ :: _, _, h => by cases h
  | _ :: _, [], _, h => by cases h
  | e :: es, p :: l, i, h => by
    simp only [List.map_cons, List.cons.injEq, Prod.mk.injEq] at h
    obtain ⟨⟨hk, hv⟩, h⟩ := h
    simp only [Instr.findNow, hk, Instr.sameNow, if_true, findA]
    by_cases he : a = p.1
    · simp [he, hv]
    · have : ((a : Int) == (p.1 : Int)) = false := by simp; omega
      simp only [this, he, if_false]
      exact find_now a es l (i + 1) h

theorem KeyT.int {t : Nat} {kd : IntKind} (hu : P.underlying t = some (.int kd)) : KeyT P t (fun n : Nat => Value.int kd n) := by
  refine ⟨fun em a w => (EqT.int hu).check 10000 em (by omega) a w, fun a es l w h => ?_, fun a w => ?_⟩
  · simp [Instr.findKey, run_underlying hu, find_now a es l 0 h]
  · simp [Instr.keyThatStays, Instr.sameBits]

/-! ### What a map holds -/
structure Ents {α : Type} (val : α → Value) (es : Array MapEntry) (clock : Nat) (l : List (α × Value)) : Prop where
  ents : es.toList.map (fun e => (e.key, e.val)) = l.map (fun p => (val p.1, p.2))
  born : ∀ e ∈ es.toList, e.born < clock
  nodup : (es.toList.map (·.born)).Nodup
  keys : (l.map (·.1)).Nodup
def MapAt {α : Type} (val : α → Value) (w : World) (b : Nat) (l : List (α × Value)) : Prop := ∃ es clock, w.heap[b]? = some (.map es clock) ∧ Ents val es clock l

variable {α : Type} {val : α → Value} {w w' : World} {b : Nat} {l : List (α × Value)}
theorem MapAt.lt (h : MapAt val w b l) : b < w.heap.size := by
  obtain ⟨es, clock, h, _⟩ := h
  exact (Array.getElem?_eq_some_iff.1 h).1
theorem MapAt.ext (h : MapAt val w b l) (e : Ext w w') : MapAt val w' b l := by
  have hb := h.lt
  obtain ⟨es, clock, h, r⟩ := h
  exact ⟨es, clock, (e.block b hb).trans h, r⟩
theorem MapAt.upd {c : Nat} (h : MapAt val w b l) (e : Upd c w w') (hn : b ≠ c) : MapAt val w' b l := by
  have hb := h.lt
  obtain ⟨es, clock, h, r⟩ := h
  exact ⟨es, clock, (e.block b hb hn).trans h, r⟩
theorem MapAt.below {B : Nat} (h : MapAt val w b l) (e : Below B w w') (hB : b < B) : MapAt val w' b l := by
  obtain ⟨es, clock, h, r⟩ := h
  exact ⟨es, clock, (e.block b hB).trans h, r⟩
theorem MapAt.keys (h : MapAt val w b l) : (l.map (·.1)).Nodup := by
  obtain ⟨es, clock, h, r⟩ := h
  exact r.keys

theorem RunP.makeMap {t : Nat} {k : Value → World → Prop} (hk : ∀ b w', w.heap.size ≤ b → MapAt val w' b [] → Ext w w' → k (.map (some b)) w') : RunP P w (Instr.makeMap t none) k :=
  ⟨.map (some w.heap.size), w.alloc (.map #[] 0), by simp [Instr.makeMap, newObj, Sem.run, Result.andThen], hk _ _ (Nat.le_refl _) ⟨#[], 0, heap_alloc_new _ _, ⟨rfl, by simp, by simp, by simp⟩⟩ (ext_alloc _ _)⟩

theorem RunP.makeMapR {t kt e : Nat} {kd : IntKind} {n : Int} {k : Value → World → Prop} (ht : P.underlying t = some (.map kt e)) (hk : ∀ b w', w.heap.size ≤ b → MapAt val w' b [] → Ext w w' → k (.map (some b)) w') : RunP P w (Instr.makeMap t (some (.int kd n))) k :=
  ⟨.map (some w.heap.size), w.alloc (.map #[] 0), by simp [Instr.makeMap, newObj, run_underlying ht, asInt, asIntOf, Sem.run, Result.andThen], hk _ _ (Nat.le_refl _) ⟨#[], 0, heap_alloc_new _ _, ⟨rfl, by simp, by simp, by simp⟩⟩ (ext_alloc _ _)⟩

theorem GetP.lenMap {S : World → Prop} {t kt e : Nat} {k : Value → Prop} (ht : P.underlying t = some (.map kt e)) (h : ∀ w, S w → MapAt val w b l) (hk : k (.int .i64 l.length)) :
    GetP P S (Builtin.len_ #[t] 0 [.map (some b)].toArray) k := by
  refine ⟨.int .i64 l.length, fun w hw => ?_, hk⟩
  obtain ⟨es, clock, hb, r⟩ := h w hw
  have hl : es.size = l.length := by have := congrArg List.length r.ents; simpa using this
  simp [Builtin.len_, run_underlying ht, MapKept.run_getObj_map hb, goInt, hl]

variable [DecidableEq α]
theorem GetP.lookup {S : World → Prop} {t kt e : Nat} {ok : Bool} {z : Value} {k : Value → Prop} (K : KeyT P kt val) (ht : P.underlying t = some (.map kt e)) (hz : ∀ w, (zeroValue e).run P w = .ok z w) (h : ∀ w, S w → MapAt val w b l) (a : α)
    (hk : k (if ok then .tuple #[(getA a l).getD z, .bool (getA a l).isSome] else (getA a l).getD z)) : GetP P S (Instr.lookup t (.map (some b)) (val a) ok) k := by
  refine ⟨_, fun w hw => ?_, hk⟩
  obtain ⟨es, clock, hb, r⟩ := h w hw
  have hf := K.find a es.toList l w r.ents
  have hg := findA_get a l 0
  cases hq : findA a l 0 with
  | none =>
    rw [hq] at hf hg
    simp only [Option.map_none] at hg
    rw [← hg]
    simp [Instr.lookup, run_underlying ht, MapKept.run_getObj_map hb, K.check, hf, hz]
  | some q =>
    rw [hq] at hf hg
    simp only [Option.map_some] at hg
    rw [← hg]
    simp [Instr.lookup, run_underlying ht, MapKept.run_getObj_map hb, K.check, hf]

theorem setA_keys (a : α) (v : Value) (h : (l.map (·.1)).Nodup) : ((setA a v l).map (·.1)).Nodup := by
  cases hq : findA a l 0 with
  | none =>
    have h1 := (findA_none a v l 0 hq)
    rw [h1.1]
    have : a ∉ l.map (·.1) := by
      have h2 := h1.2
      clear hq h1 h
      induction l with
      | nil => simp
      | cons p r ih =>
        simp only [getA] at h2
        split at h2
        · cases h2
        · rename_i hne
          simp only [List.map_cons, List.mem_cons, not_or]
          exact ⟨hne, ih h2⟩
    rw [List.map_append, List.nodup_append]
    refine ⟨h, by simp, ?_⟩
    intro x hx y hy
    simp at hy
    subst hy
    intro e
    subst e
    exact this hx
  | some q =>
    obtain ⟨_, h2, h3⟩ := findA_some a v l 0 q hq
    rw [h3, List.map_set]
    have : (l.map (·.1)).set (q.1 - 0) a = l.map (·.1) := by
      have hlt := (List.getElem?_eq_some_iff.1 h2)
      obtain ⟨hlt, hge⟩ := hlt
      apply List.ext_getElem?
      intro i
      rw [List.getElem?_set]
      split
      · rename_i hi
        subst hi
        rw [if_pos (by simpa using hlt), List.getElem?_map, h2]
        rfl
      · rfl
    rw [this]
    exact h

theorem upd_setObj {o o' : Obj} (hb : w.heap[b]? = some o) : Upd b w { w with heap := w.heap.setIfInBounds b o' } :=
  ⟨rfl, rfl, rfl, by simp, fun k _ hn => (MapKept.heap_set hb).2 k hn⟩

theorem DoP.mapUpdate {t kt e : Nat} {v : Value} {k : Value → World → Prop} (K : KeyT P kt val) (ht : P.underlying t = some (.map kt e)) (h : MapAt val w b l) (a : α)
    (hk : ∀ w', MapAt val w' b (setA a v l) → Upd b w w' → k undef w') : DoP P w (Instr.mapUpdate t (.map (some b)) (val a) v) k := by
  obtain ⟨es, clock, hb, r⟩ := h
  have hf := K.find a es.toList l w r.ents
  have hky := setA_keys a v r.keys
  cases hq : findA a l 0 with
  | none =>
    rw [hq] at hf
    have hs := (findA_none a v l 0 hq).1
    refine ⟨_, ?_, hk { w with heap := w.heap.setIfInBounds b (.map (es.push { key := val a, val := v, born := clock }) (clock + 1)) } ⟨_, _, (MapKept.heap_set hb).1, ⟨?_, ?_, ?_, hky⟩⟩ (upd_setObj hb)⟩
    · simp [Instr.mapUpdate, run_underlying ht, MapKept.run_getObj_map hb, K.check, hf, MapKept.run_setObj_map _ hb]
    · rw [hs]
      simp [r.ents]
    · intro x hx
      simp at hx
      rcases hx with hx | rfl
      · have := r.born x (by simpa using hx); omega
      · simp
    · rw [Array.toList_push, List.map_append, List.nodup_append]
      refine ⟨r.nodup, by simp, ?_⟩
      intro x hx y hy
      simp at hy
      subst hy
      obtain ⟨z, hz, rfl⟩ := List.mem_map.1 hx
      have := r.born z hz
      omega
  | some q =>
    rw [hq] at hf
    obtain ⟨_, h2, h3⟩ := findA_some a v l 0 q hq
    rw [Nat.sub_zero] at h2 h3
    have hlt : q.1 < es.size := by
      have hl : es.size = l.length := by have := congrArg List.length r.ents; simpa using this
      rw [hl]
      exact (List.getElem?_eq_some_iff.1 h2).1
    have hkey : (es[q.1]'hlt).key = val a := by
      have := congrArg (fun L => L[q.1]?) r.ents
      simp [h2, List.getElem?_eq_getElem hlt] at this
      exact this.1
    have hge : es[q.1]? = some (es[q.1]'hlt) := Array.getElem?_eq_getElem hlt
    refine ⟨_, ?_, hk { w with heap := w.heap.setIfInBounds b (.map (es.modify q.1 fun e => { e with key := val a, val := v }) clock) } ⟨_, _, (MapKept.heap_set hb).1, ⟨?_, ?_, ?_, hky⟩⟩ (upd_setObj hb)⟩
    · simp [Instr.mapUpdate, run_underlying ht, MapKept.run_getObj_map hb, K.check, hf, MapKept.run_setObj_map _ hb, hge, hkey, K.stays]
    · rw [h3, List.map_set, ← r.ents, Array.toList_modify]
      apply List.ext_getElem?
      intro i
      simp only [List.getElem?_map, List.getElem?_modify, List.getElem?_set]
      by_cases hi : q.1 = i
      · subst hi
        simp [hlt, List.getElem?_eq_getElem hlt]
      · simp [hi]
    · intro x hx
      rw [Array.toList_modify] at hx
      obtain ⟨i, hi⟩ := List.mem_iff_getElem?.1 hx
      rw [List.getElem?_modify] at hi
      cases hy : es.toList[i]? with
      | none => simp [hy] at hi
      | some y =>
        have hyb := r.born y (List.mem_of_getElem? hy)
        rw [hy] at hi
        by_cases hqi : q.1 = i
        · simp [hqi] at hi; rw [← hi]; exact hyb
        · simp [hqi] at hi; rw [← hi]; exact hyb
    · have : (es.modify q.1 fun e => { e with key := val a, val := v }).toList.map (·.born) = es.toList.map (·.born) := by
        rw [Array.toList_modify]
        apply List.ext_getElem?
        intro i
        simp only [List.getElem?_map, List.getElem?_modify]
        cases es.toList[i]? with
        | none => rfl
        | some y => by_cases hqi : q.1 = i <;> simp [hqi]
      rw [this]
      exact r.nodup
end

/-! ### Going over a map that stands still -/
structure IterAt {α : Type} (val : α → Value) (w : World) (it b : Nat) (l rest : List (α × Value)) : Prop where
  out : ∃ es clock since c0 seen, w.heap[b]? = some (.map es clock) ∧ w.heap[it]? = some (.mapIter (some b) since seen c0) ∧ Ents val es clock l ∧ (∀ e ∈ es.toList, e.born < since) ∧ since ≤ c0 ∧ since ≤ clock ∧
    (es.toList.filter fun e => !seen.contains e.born).map (fun e => (e.key, e.val)) = rest.map (fun p => (val p.1, p.2))

/-- The entry that the last step handed on. -/
structure IterCur {α : Type} (val : α → Value) (w : World) (it b : Nat) (p : α × Value) : Prop where
  out : ∃ (es : Array MapEntry) (clock since : Nat) (seen : Array Nat) (e : MapEntry), w.heap[b]? = some (.map es clock) ∧ w.heap[it]? = some (.mapIter (some b) since (seen.push e.born) clock) ∧ e ∈ es.toList ∧ (es.toList.map (·.born)).Nodup ∧ e.key = val p.1 ∧ e.val = p.2

section
variable {P : Program} {α : Type} {val : α → Value} {w w' : World} {it b : Nat} {l rest : List (α × Value)}
theorem RunP.entry {p : α × Value} {k : Value → World → Prop} (h : IterCur val w it b p) (hk : k (.tuple #[val p.1, p.2]) w) : RunP P w (Instr.entry (.pointer (some ⟨it, 0, none⟩))) k := by
  obtain ⟨es, clock, since, seen, e, g1, g2, g3, g4, g5, g6⟩ := h.out
  have gi : (getObj it).run P w = .ok (.mapIter (some b) since (seen.push e.born) clock) w := by simp [getObj, Sem.run, g2]
  have gm : (getObj b).run P w = .ok (.map es clock) w := MapKept.run_getObj_map g1
  have hf : es.find? (·.born == e.born) = some e := by rw [← Array.find?_toList]; exact find_born e es.toList g4 g3
  refine ⟨.tuple #[e.key, e.val], w, ?_, by rw [g5, g6]; exact hk⟩
  simp only [Instr.entry, Sem.run_bind, gi, gm, Result.andThen_ok, Array.back?_push, bne_self_eq_false, Bool.false_eq_true, if_false, hf]
  rfl
theorem IterAt.lt (h : IterAt val w it b l rest) : it < w.heap.size ∧ b < w.heap.size ∧ it ≠ b := by
  obtain ⟨es, clock, since, c0, seen, h1, h2, _⟩ := h.out
  exact ⟨(Array.getElem?_eq_some_iff.1 h2).1, (Array.getElem?_eq_some_iff.1 h1).1, fun e => by subst e; rw [h1] at h2; cases h2⟩
theorem IterAt.ext (h : IterAt val w it b l rest) (e : Ext w w') : IterAt val w' it b l rest := by
  obtain ⟨h1, h2, _⟩ := h.lt
  obtain ⟨es, clock, since, c0, seen, g1, g2, g⟩ := h.out
  exact ⟨es, clock, since, c0, seen, (e.block _ h2).trans g1, (e.block _ h1).trans g2, g⟩
theorem IterAt.upd {c : Nat} (h : IterAt val w it b l rest) (e : Upd c w w') (hi : it ≠ c) (hb : b ≠ c) : IterAt val w' it b l rest := by
  obtain ⟨h1, h2, _⟩ := h.lt
  obtain ⟨es, clock, since, c0, seen, g1, g2, g⟩ := h.out
  exact ⟨es, clock, since, c0, seen, (e.block _ h2 hb).trans g1, (e.block _ h1 hi).trans g2, g⟩
theorem IterAt.below {B : Nat} (h : IterAt val w it b l rest) (e : Below B w w') (hi : it < B) (hb : b < B) : IterAt val w' it b l rest := by
  obtain ⟨es, clock, since, c0, seen, g1, g2, g⟩ := h.out
  exact ⟨es, clock, since, c0, seen, (e.block _ hb).trans g1, (e.block _ hi).trans g2, g⟩
theorem IterAt.map (h : IterAt val w it b l rest) : MapAt val w b l := by
  obtain ⟨es, clock, since, c0, seen, g1, g2, g3, g⟩ := h.out
  exact ⟨es, clock, g1, g3⟩

theorem RunP.range {t kt e : Nat} {k : Value → World → Prop} (ht : P.underlying t = some (.map kt e)) (h : MapAt val w b l)
    (hk : ∀ it w', w.heap.size ≤ it → IterAt val w' it b l l → Ext w w' → k (.pointer (some ⟨it, 0, none⟩)) w') : RunP P w (Instr.range t (.map (some b))) k := by
  obtain ⟨es, clock, hb, r⟩ := h
  have hlt := (Array.getElem?_eq_some_iff.1 hb).1
  refine ⟨_, _, run_range_map w t kt e b es clock ht hb, hk _ _ (Nat.le_refl _) ⟨es, clock, clock, clock, #[], ?_, heap_alloc_new _ _, r, r.born, Nat.le_refl _, Nat.le_refl _, ?_⟩ (ext_alloc _ _)⟩
  · rw [heap_alloc_old w _ hlt, hb]
  · have : (es.toList.filter fun e => !(#[] : Array Nat).contains e.born) = es.toList := List.filter_eq_self.2 (fun _ _ => by simp)
    rw [this]
    exact r.ents

theorem filter_erase : ∀ (L : List MapEntry) (i : Nat) (hi : i < L.length), (L.map (·.born)).Nodup → L.filter (fun e => !(e.born == (L[i]).born)) = L.eraseIdx i
  | [], i, hi, _ => by simp at hi
  | x :: L, 0, _, hn => by
    have hn' := List.nodup_cons.1 hn
    simp only [List.getElem_cons_zero, List.eraseIdx_cons_zero, List.filter_cons, beq_self_eq_true, Bool.not_true, Bool.false_eq_true, if_false]
    refine List.filter_eq_self.2 fun y hy => ?_
    have : y.born ≠ x.born := fun e => hn'.1 (List.mem_map.2 ⟨y, hy, e⟩)
    simp [this]
  | x :: L, i + 1, hi, hn => by
    have hn' := List.nodup_cons.1 hn
    have hi' : i < L.length := by simpa using hi
    simp only [List.getElem_cons_succ, List.eraseIdx_cons_succ, List.filter_cons]
    have : x.born ≠ (L[i]).born := fun e => hn'.1 (List.mem_map.2 ⟨L[i], List.getElem_mem _, e.symm⟩)
    rw [if_pos (by simp [this]), filter_erase L i hi' hn'.2]

theorem map_eraseIdx {α β : Type} (f : α → β) : ∀ (l : List α) (i : Nat), (l.eraseIdx i).map f = (l.map f).eraseIdx i
  | [], _ => rfl
  | _ :: _, 0 => rfl
  | a :: r, i + 1 => by simp [map_eraseIdx f r i]

theorem RunP.next {ty : Nat} {k : Value → World → Prop} (h : IterAt val w it b l rest)
    (h0 : rest = [] → k (.tuple #[.bool false]) w)
    (h1 : ∀ i (hi : i < rest.length) w', IterAt val w' it b l (rest.eraseIdx i) → IterCur val w' it b rest[i] → Upd it w w' → k (.tuple #[.bool true, val (rest[i]).1, (rest[i]).2]) w') :
    RunP P w (Instr.next (.pointer (some ⟨it, 0, none⟩)) false ty) k := by
  obtain ⟨hit, hbt, hne⟩ := h.lt
  obtain ⟨es, clock, since, c0, seen, g1, g2, r, hold, hsc, hscl, hrest⟩ := h.out
  have gi : (getObj it).run P w = .ok (.mapIter (some b) since seen c0) w := by simp [getObj, Sem.run, g2]
  have gm : (getObj b).run P w = .ok (.map es clock) w := MapKept.run_getObj_map g1
  have hLl : (es.filter fun e => !seen.contains e.born).toList.map (fun e => (e.key, e.val)) = rest.map (fun p => (val p.1, p.2)) := by rw [Array.toList_filter]; exact hrest
  have hmem : ∀ x ∈ (es.filter fun e => !seen.contains e.born).toList, x.born < since := fun x hx => hold x (by simp at hx ⊢; exact hx.1)
  have hnd : ((es.filter fun e => !seen.contains e.born).toList.map (·.born)).Nodup := by
    rw [Array.toList_filter]
    exact List.Nodup.sublist (List.Sublist.map _ List.filter_sublist) r.nodup
  have hpush : ∀ e : MapEntry, (es.toList.filter fun x => !(seen.push e.born).contains x.born) = (es.filter fun x => !seen.contains x.born).toList.filter (fun x => !(x.born == e.born)) := by
    intro e
    rw [Array.toList_filter, List.filter_filter]
    congr 1
    funext x
    rw [contains_push]
    cases seen.contains x.born <;> simp
  generalize hL : (es.filter fun e => !seen.contains e.born) = L at hLl hmem hnd hpush
  have e1 : L.filter (fun x => decide (x.born < since)) = L := Array.filter_eq_self.2 (fun x hx => by simpa using hmem x (by simpa using hx))
  have e2 : L.filter (fun x => decide (x.born ≥ since)) = #[] := by
    rw [Array.filter_eq_empty_iff]
    intro x hx
    have := hmem x (by simpa using hx)
    simp
    omega
  have hlen : L.size = rest.length := by have := congrArg List.length hLl; simpa using this
  by_cases hz : L.size = 0
  · have : L = #[] := Array.eq_empty_of_size_eq_zero hz
    subst this
    refine ⟨.tuple #[.bool false], w, ?_, h0 (List.eq_nil_of_length_eq_zero (by rw [← hlen, hz]))⟩
    simp only [Instr.next, Sem.run_bind, gi, gm, Result.andThen_ok, next_test_false seen es since c0 hold hsc, Bool.false_eq_true, if_false, hL, e1, e2]
    simp [choose, Sem.run, Question.forced]
  · have hnE : L.isEmpty = false := by simp [Array.isEmpty, hz]
    have hch : ∃ (j : Nat) (w1 : World), j < L.size ∧ w1.heap = w.heap ∧ Upd it w w1 ∧ (choose (Question.mapNext L.size)).run P w = .ok j w1 := by
      by_cases hf : L.size ≤ 1
      · exact ⟨0, w, by omega, rfl, Upd.refl _ _, by simp [choose, Sem.run, Question.forced, hf]⟩
      · exact ⟨_, w.drew, Nat.mod_lt _ (by omega), rfl, Upd.of_ext (Ext.drew w), by
          simp only [choose, Sem.run, Question.forced, decide_eq_true_eq, hf, if_false, Question.cut]
          rfl⟩
    obtain ⟨j, w1, hj, hal, hu1, hrun⟩ := hch
    have hjr : j < rest.length := by omega
    have g2' : w1.heap[it]? = some (.mapIter (some b) since seen c0) := by rw [hal]; exact g2
    have hset : (setObj it (.mapIter (some b) since (seen.push L[j].born) clock)).run P w1 = .ok () { w1 with heap := w1.heap.setIfInBounds it (.mapIter (some b) since (seen.push L[j].born) clock) } := by
      simp [setObj, Sem.run, g2']
    have hent : ((L[j]).key, (L[j]).val) = (val (rest[j]).1, (rest[j]).2) := by
      have := congrArg (fun X => X[j]?) hLl
      simpa [List.getElem?_eq_getElem hjr, hj] using this
    refine ⟨.tuple #[.bool true, (L[j]).key, (L[j]).val], { w1 with heap := w1.heap.setIfInBounds it (.mapIter (some b) since (seen.push L[j].born) clock) }, ?_, ?_⟩
    · simp only [Instr.next, Sem.run_bind, gi, gm, Result.andThen_ok, next_test_false seen es since c0 hold hsc, Bool.false_eq_true, if_false, hL, e1, e2, hnE, Array.append_empty, Array.empty_append, Array.size_map, hrun, Array.getElem?_map, Array.getElem?_eq_getElem hj, Option.map_some, hset]
      rfl
    · rw [show (L[j]).key = val (rest[j]).1 from congrArg Prod.fst hent, show (L[j]).val = (rest[j]).2 from congrArg Prod.snd hent]
      refine h1 j hjr _ ⟨es, clock, since, clock, seen.push L[j].born, ?_, (MapKept.heap_set g2').1, r, hold, hscl, hscl, ?_⟩ ⟨es, clock, since, seen, L[j], ?_, (MapKept.heap_set g2').1, ?_, r.nodup, congrArg Prod.fst hent, congrArg Prod.snd hent⟩ (hu1.trans (upd_setObj g2'))
      · show (w1.heap.setIfInBounds it _)[b]? = _
        rw [(MapKept.heap_set g2').2 b (Ne.symm hne), hal, g1]
      · have hge : L[j] = L.toList[j]'(by simpa using hj) := by simp
        rw [hpush, hge, filter_erase L.toList j (by simpa using hj) hnd]
        rw [map_eraseIdx, hLl, map_eraseIdx]
      · show (w1.heap.setIfInBounds it _)[b]? = _
        rw [(MapKept.heap_set g2').2 b (Ne.symm hne), hal, g1]
      · have hmL : ∀ x, x ∈ L → x ∈ es.toList := by
          intro x hx
          rw [← hL] at hx
          exact Array.mem_toList_iff.2 (Array.mem_filter.1 hx).1
        exact hmL _ (Array.getElem_mem hj)
end
end Go.Proofs.YtgeemplpgfiidaaGreatDoor.Mv
/- append: where the outcome lies. No program in sight. -/
namespace Go.Proofs.YtgeemplpgfiidaaGreatDoor.Mv
open Go Go.RowKit
theorem Ext.upd {g : Nat} {a b c : World} (h : Ext a b) (k : Upd g b c) (hg : a.heap.size ≤ g) : Ext a c := below_upd h k hg h.size
theorem Upd.belowR {B b : Nat} {a w w' : World} (h : Upd b a w) (k : Below B w w') (hB : a.heap.size ≤ B) : Upd b a w' :=
  ⟨k.os.trans h.os, k.tape.trans h.tape, k.output.trans h.output, Nat.le_trans h.size k.size, fun i hi hn => (k.block i (Nat.lt_of_lt_of_le hi hB)).trans (h.block i hi hn)⟩
section
variable {P : Program} {w : World}
/-- append(v, x...), and the outcome lies where v lay or in a new block. -/
theorem RunP.appendX {α : Type} {C : Cod α} {t e bytes base ty : Nat} {v x : Value} {l m : List α} {k : Value → World → Prop} (hE : ElF P t e C bytes) (hg : Grow C e base w v l) (hx : Seq C w x m)
    (hn : l.length + m.length ≤ maxLen) (hb : (l.length + m.length) * bytes ≤ 140737488355328) (hbase : base ≤ w.heap.size)
    (hk : ∀ v' w', Grow C e base w' v' (l ++ m) → w.grownBy w' v.ownBlock → (∀ b, inBlock v' b → inBlock v b ∨ w.heap.size ≤ b) → k v' w') : RunP P w (Builtin.append_ #[t, t] ty [v, x].toArray) k := by
  have hR := RunP.append (ty := ty) (k := fun v' w' => Grow C e base w' v' (l ++ m) ∧ w.grownBy w' v.ownBlock) hE hg hx hn hb hbase (fun v' w' h1 h2 => ⟨h1, h2⟩)
  obtain ⟨v', w', hr, h1, h2⟩ := hR.out
  refine ⟨v', w', hr, hk v' w' h1 h2 ?_⟩
  obtain ⟨i, z, hi, hz, hs, hby, hzs⟩ := hE.info
  obtain ⟨hlen, ⟨rfl, h0⟩ | ⟨g, cap, cur, rfl, hbg, hgg, hnc, hcm, hcs, htake⟩⟩ := hg
  · -- from nothing
    have hl0 : l = [] := List.eq_nil_of_length_eq_zero h0
    subst hl0
    have hR2 := RunP.append (base := w.heap.size) (ty := ty) (k := fun v' w' => Grow C e w.heap.size w' v' m) hE (Grow.nil C e w.heap.size w) hx hn hb (Nat.le_refl _) (fun v' w' h1 h2 => by simpa using h1)
    obtain ⟨v2, w2, hr2, h3⟩ := hR2.out
    rw [hr] at hr2
    cases hr2
    intro b hb
    exact .inr (h3.block hb).1
  · intro b hb'
    rcases hx with ⟨rfl, rfl⟩ | ⟨xb, xo, xcap, rfl, hxc, hxbl, hxcells⟩
    · have := run_append_owned_none (P := P) w base t ty e i C.size hE.und hi (.slice (some ⟨g, 0, none⟩) l.length cap) l.length (C.all l) ⟨hlen, .inr ⟨g, cap, cur, rfl, hbg, hgg, hnc, hcm, hcs, htake⟩⟩
      rw [show [Value.slice (some ⟨g, 0, none⟩) l.length cap, Value.slice none 0 0].toArray = #[Value.slice (some ⟨g, 0, none⟩) l.length cap, Value.slice none 0 0] from rfl, this] at hr
      cases hr
      exact .inl hb'
    · have hnews : ∀ j u, (C.all m)[j]? = some u → w.cell? ((⟨xb, xo, none⟩ : Addr).add j) = some u := fun j u hu => by rw [Addr.add_lit]; exact hxcells j u hu
      by_cases hroom : l.length + m.length ≤ cap
      · have hfit : l.length * i.size + (C.all m).length ≤ cur.size := by rw [C.all_len, hcs, hs, ← Nat.add_mul]; exact Nat.mul_le_mul_right _ hroom
        have hr2 := run_append_room (P := P) w t ty e i hE.und hi g l.length cap cur hgg ⟨xb, xo, none⟩ m.length xcap (C.all m) (by rw [hs]; exact C.all_len m) hnews (C.all_one m) hroom hfit
        rw [show [Value.slice (some ⟨g, 0, none⟩) l.length cap, Value.slice (some ⟨xb, xo, none⟩) m.length xcap].toArray = #[Value.slice (some ⟨g, 0, none⟩) l.length cap, Value.slice (some ⟨xb, xo, none⟩) m.length xcap] from rfl, hr2] at hr
        cases hr
        obtain ⟨o', n', c', hv'⟩ := hb'
        cases hv'
        exact .inl ⟨_, _, _, rfl⟩
      · have hown : w.ownsRow base e C.size (.slice (some ⟨g, 0, none⟩) l.length cap) l.length (C.all l) := ⟨hlen, .inr ⟨g, cap, cur, rfl, hbg, hgg, hnc, hcm, hcs, htake⟩⟩
        have holds : ∀ j u, (C.all l)[j]? = some u → w.cell? ((⟨g, 0, none⟩ : Addr).add j) = some u := hown.cells (g := g) rfl
        have hr2 := run_append_grow (P := P) w t ty e i z hE.und hi hz ⟨g, 0, none⟩ l.length cap (C.all l) (by rw [hs]; exact hlen) holds ⟨xb, xo, none⟩ m.length xcap (C.all m) (by rw [hs]; exact C.all_len m) hnews (by omega) (by simp only [maxLen] at hn; omega)
          (growslice_fits (by omega) (by rw [hby]; exact hb))
        rw [show [Value.slice (some ⟨g, 0, none⟩) l.length cap, Value.slice (some ⟨xb, xo, none⟩) m.length xcap].toArray = #[Value.slice (some ⟨g, 0, none⟩) l.length cap, Value.slice (some ⟨xb, xo, none⟩) m.length xcap] from rfl, hr2] at hr
        cases hr
        obtain ⟨o', n', c', hv'⟩ := hb'
        cases hv'
        exact .inr (Nat.le_refl _)
theorem Grow.one {α : Type} {C : Cod α} {e base : Nat} {v : Value} {l : List α} (h : Grow C e base w v l) : v.oneCell' = true := by
  obtain ⟨_, ⟨rfl, _⟩ | ⟨g, cap, cur, rfl, _⟩⟩ := h <;> rfl
theorem Grow.cell1 {α : Type} {C : Cod α} {e base : Nat} {v : Value} {l : List α} (h : Grow C e base w v l) : v.cells = #[v] := by
  obtain ⟨_, ⟨rfl, _⟩ | ⟨g, cap, cur, rfl, _⟩⟩ := h <;> rfl
theorem Grow.kept {α β : Type} {C : Cod α} {D : Cod β} {e e' base base' : Nat} {w' : World} {v u : Value} {l : List α} {m : List β} (h : Grow C e base w v l) (hu : Grow D e' base' w u m) (hg : w.grownBy w' u.ownBlock)
    (hn : ∀ b, inBlock v b → ¬ inBlock u b) : Grow C e base w' v l := by
  refine World.ownsRow.kept h hg ?_
  obtain ⟨_, ⟨rfl, _⟩ | ⟨g, cap, cur, rfl, _⟩⟩ := h
  · exact .inl rfl
  · right
    intro he
    refine hn g ⟨_, _, _, rfl⟩ ?_
    obtain ⟨_, ⟨rfl, _⟩ | ⟨g', cap', cur', rfl, _⟩⟩ := hu
    · cases he
    · simp [Value.ownBlock] at he
      subst he
      exact ⟨_, _, _, rfl⟩
theorem Seq.kept {α β : Type} {C : Cod α} {D : Cod β} {e' base' : Nat} {w' : World} {v u : Value} {l : List α} {m : List β} (h : Seq C w v l) (hu : Grow D e' base' w u m) (hg : w.grownBy w' u.ownBlock)
    (hn : ∀ b, inBlock v b → ¬ inBlock u b) : Seq C w' v l := by
  rcases h with h | ⟨b, o, cap, hv, hc, hb, h⟩
  · exact .inl h
  · have hne : some b ≠ u.ownBlock := by
      intro he
      refine hn b (by rw [hv]; exact ⟨_, _, _, rfl⟩) ?_
      obtain ⟨_, ⟨rfl, _⟩ | ⟨g', cap', cur', rfl, _⟩⟩ := hu
      · cases he
      · simp [Value.ownBlock] at he
        subst he
        exact ⟨_, _, _, rfl⟩
    exact .inr ⟨b, o, cap, hv, hc, Nat.lt_of_lt_of_le hb hg.size, fun j u' hu' => (World.cell?_of_block (hg.block b hb hne)).trans (h j u' hu')⟩
theorem Own.kept {β : Type} {D : Cod β} {e' base' b : Nat} {w' : World} {u : Value} {cs : List Value} {m : List β} (h : Own w b cs) (hu : Grow D e' base' w u m) (hg : w.grownBy w' u.ownBlock) (hn : ¬ inBlock u b) : Own w' b cs := by
  have hb := h.lt
  obtain ⟨t, h⟩ := h
  refine ⟨t, (hg.block b hb ?_).trans h⟩
  intro he
  refine hn ?_
  obtain ⟨_, ⟨rfl, _⟩ | ⟨g', cap', cur', rfl, _⟩⟩ := hu
  · cases he
  · simp [Value.ownBlock] at he
    subst he
    exact ⟨_, _, _, rfl⟩
theorem Grow.inB {α : Type} {C : Cod α} {e base g : Nat} {v : Value} {l : List α} (h : Grow C e base w v l) (hg : w.heap.size ≤ g ∨ g < base) : ¬ inBlock v g := fun hb => by
  have := h.block hb
  omega
/-- A region whose order is open, where S is kept by all that turns the world. -/
theorem draw_with {T : Tys} (hT : TyOk P T) (hm : P.follows .mixedOrders = true) {n id : Nat} {ops : List Oper} {Q : Exit → Env → World → Prop} {E : Env} (p : Plan)
    (hok : (Region.noSelect ops.toArray && okPlan ops.toArray p ops.length (Array.replicate ops.length false)) = true) (S : World → Prop) (hS : ∀ w₁, Ext w w₁ → S w₁)
    (h : ∀ w₁, Ext w w₁ → w₁.heap.size = w.heap.size → vcPlan P T n ops Q S p true E w₁) : DrawP P n id ops Q E w :=
  draw_intro hT hm p S hok (hS _ (Ext.drew w)) (h _ (Ext.drew w) rfl)
end
end Go.Proofs.YtgeemplpgfiidaaGreatDoor.Mv
/- Worlds in which two old blocks may have turned; bytes as strings. No program in sight. -/
namespace Go.Proofs.YtgeemplpgfiidaaGreatDoor.Mv
open Go Go.RowKit

/-- Of the old blocks, a and b alone may have turned. -/
structure Upd2 (a b : Nat) (w w' : World) : Prop where
  os : w'.os = w.os
  tape : w'.tape = w.tape
  output : w'.output = w.output
  size : w.heap.size ≤ w'.heap.size
  block : ∀ k, k < w.heap.size → k ≠ a → k ≠ b → w'.heap[k]? = w.heap[k]?
section
variable {a b : Nat} {w w' w'' : World}
theorem Upd2.refl (a b : Nat) (w : World) : Upd2 a b w w := ⟨rfl, rfl, rfl, Nat.le_refl _, fun _ _ _ _ => rfl⟩
theorem Upd2.trans (h : Upd2 a b w w') (k : Upd2 a b w' w'') : Upd2 a b w w'' :=
  ⟨k.os.trans h.os, k.tape.trans h.tape, k.output.trans h.output, Nat.le_trans h.size k.size, fun i hi ha hb => (k.block i (Nat.lt_of_lt_of_le hi h.size) ha hb).trans (h.block i hi ha hb)⟩
theorem Upd2.of_ext (h : Ext w w') : Upd2 a b w w' := ⟨h.os, h.tape, h.output, h.size, fun k hk _ _ => h.block k hk⟩
theorem Upd2.left (h : Upd a w w') : Upd2 a b w w' := ⟨h.os, h.tape, h.output, h.size, fun k hk ha _ => h.block k hk ha⟩
theorem Upd2.right (h : Upd b w w') : Upd2 a b w w' := ⟨h.os, h.tape, h.output, h.size, fun k hk _ hb => h.block k hk hb⟩
/-- Behind it, new blocks may be written. -/
theorem Upd2.new {B : Nat} (h : Upd2 a b w w') (k : Below B w' w'') (hB : w.heap.size ≤ B) : Upd2 a b w w'' :=
  ⟨k.os.trans h.os, k.tape.trans h.tape, k.output.trans h.output, Nat.le_trans h.size k.size, fun i hi ha hb => (k.block i (Nat.lt_of_lt_of_le hi hB)).trans (h.block i hi ha hb)⟩
theorem Upd2.upd {g : Nat} (h : Upd2 a b w w') (k : Upd g w' w'') (hg : w.heap.size ≤ g) : Upd2 a b w w'' :=
  h.new (B := w.heap.size) (k.below hg h.size) (Nat.le_refl _)
theorem Upd2.below {B : Nat} (h : Upd2 a b w w') (ha : B ≤ a) (hb : B ≤ b) (hB : B ≤ w.heap.size) : Below B w w' :=
  ⟨h.os, h.tape, h.output, h.size, fun k hk => h.block k (by omega) (by omega) (by omega)⟩
theorem Own.upd2 {c : Nat} {cs : List Value} (h : Own w c cs) (e : Upd2 a b w w') (ha : c ≠ a) (hb : c ≠ b) : Own w' c cs := by
  have hl := h.lt
  obtain ⟨t, h⟩ := h
  exact ⟨t, (e.block c hl ha hb).trans h⟩
theorem CellsAt.upd2 {c o : Nat} {cs : List Value} (h : CellsAt w c o cs) (e : Upd2 a b w w') (ha : c ≠ a) (hb : c ≠ b) : CellsAt w' c o cs :=
  fun j u hu => (World.cell?_of_block (e.block c (block_lt (h j u hu)) ha hb)).trans (h j u hu)
theorem Seq.upd2 {α : Type} {C : Cod α} {v : Value} {l : List α} (h : Seq C w v l) (e : Upd2 a b w w') (hn : ∀ x, inBlock v x → x ≠ a ∧ x ≠ b) : Seq C w' v l := by
  rcases h with h | ⟨c, o, cap, hv, hc, hb, h⟩
  · exact .inl h
  · have := hn c (by rw [hv]; exact ⟨_, _, _, rfl⟩)
    exact .inr ⟨c, o, cap, hv, hc, Nat.lt_of_lt_of_le hb e.size, h.upd2 e this.1 this.2⟩
theorem Grow.upd2 {α : Type} {C : Cod α} {e base : Nat} {v : Value} {l : List α} (h : Grow C e base w v l) (x : Upd2 a b w w') (hn : ∀ x, inBlock v x → x ≠ a ∧ x ≠ b) : Grow C e base w' v l := by
  obtain ⟨hl, h | ⟨g', cap, cur, rfl, hb', hg, hr⟩⟩ := h
  · exact ⟨hl, .inl h⟩
  · have := hn g' ⟨_, _, _, rfl⟩
    exact ⟨hl, .inr ⟨g', cap, cur, rfl, hb', (x.block _ (Array.getElem?_eq_some_iff.1 hg).1 this.1 this.2).trans hg, hr⟩⟩
theorem MapAt.upd2 {α : Type} {val : α → Value} {c : Nat} {l : List (α × Value)} (h : MapAt val w c l) (e : Upd2 a b w w') (ha : c ≠ a) (hb : c ≠ b) : MapAt val w' c l := by
  have hl := h.lt
  obtain ⟨es, clock, h, r⟩ := h
  exact ⟨es, clock, (e.block c hl ha hb).trans h, r⟩
end

theorem GetP.idxSB {P : Program} {w : World} {α : Type} {C : Cod α} {S : World → Prop} {t e : Nat} {v : Value} {l : List α} {kd : IntKind} {n : Int} {k : Value → Prop} (hu : ∀ w, (underlying t).run P w = .ok (.slice e) w)
    (hs : ∀ w, (sizeOf e).run P w = .ok C.size w) (h : Seq C w v l) (h0 : 0 ≤ n) (h1 : n < l.length)
    (hk : ∀ b o, CellsAt w b o (C.cells (l[n.toNat]'(by omega))) → inBlock v b → k (.pointer (some ⟨b, o, none⟩))) : GetP P S (Instr.indexAt t v (.int kd n)) k := by
  have h' := h
  rcases h' with ⟨_, rfl⟩ | ⟨b, o, cap, rfl, hc, hb, hcells⟩
  · simp at h1; omega
  · obtain ⟨b', o', hr, hc'⟩ := run_indexAt_seq (P := P) (kd := kd) hu hs h h0 h1
    refine ⟨_, fun w _ => hr w, hk b' o' hc' ?_⟩
    have h2 : (Instr.indexAt t (.slice (some ⟨b, o, none⟩) l.length cap) (.int kd n)).run P w = .ok (.pointer (some ((⟨b, o, none⟩ : Addr).add (n.toNat * C.size)))) w := by
      simp [Instr.indexAt, asIntOf, hu, hs, h0, h1]
    rw [hr w] at h2
    simp only [Result.ok.injEq, Value.pointer.injEq, Option.some.injEq, and_true] at h2
    have : b' = b := by
      have := congrArg Addr.block h2
      simp only [Addr.add] at this
      split at this <;> exact this
    rw [this]
    exact ⟨_, _, _, rfl⟩
/-! ### Bytes as a string -/
def strOf (l : List UInt8) : ByteArray := ⟨l.toArray⟩
theorem strOf_toList (l : List UInt8) : (strOf l).toList = l := by rw [ByteArray.toList_eq]; rfl
theorem fold_push : ∀ (l : List UInt8) (s : ByteArray), (l.map fun b => (b.toNat : Int)).foldl (fun (r : ByteArray) (n : Int) => r.push (UInt8.ofNat n.toNat)) s = ⟨s.data ++ l.toArray⟩
  | [], s => by simp
  | b :: r, s => by
    simp only [List.map_cons, List.foldl_cons]
    rw [fold_push r]
    cases s
    simp [ByteArray.push]
section
variable {P : Program} {w : World}
theorem GetP.bytesStr {src dst e : Nat} {v : Value} {l : List UInt8} {k : Value → Prop} (hs : P.underlying src = some (.slice e)) (he : P.underlying e = some (.int .u8)) (hd : P.underlying dst = some .string) (hv : Seq codByte w v l)
    (hk : k (.string (strOf l))) : GetP P (fun w' => w' = w) (convert src dst v) k := by
  refine ⟨_, ?_, hk⟩
  rintro w' rfl
  rcases hv with ⟨rfl, rfl⟩ | ⟨b, o, cap, rfl, hc, hb, h⟩
  · rw [run_convert_bytes_string w' src dst e none 0 0 hs he hd]
    rfl
  · rw [run_convert_bytes_string w' src dst e _ _ _ hs he hd]
    have hl : (loadCells ⟨b, o, none⟩ l.length).run P w' = .ok (((l.map fun b => (b.toNat : Int))).map (Value.int .u8)).toArray w' := by
      have := run_loadCells_list (P := P) w' ⟨b, o, none⟩ (l.map byteV) (fun j u hu => by rw [Addr.add_lit]; exact h j u (by rw [codByte_all]; exact hu))
      rw [List.length_map] at this
      rw [this, List.map_map]
      rfl
    rw [run_bytesToString w' ⟨b, o, none⟩ l.length cap _ hl, fold_push]
    simp [strOf, ByteArray.empty, ByteArray.emptyWithCapacity]
    rfl
end
end Go.Proofs.YtgeemplpgfiidaaGreatDoor.Mv
/- Maps: an entry that is read and then written. No program in sight. -/
namespace Go.Proofs.YtgeemplpgfiidaaGreatDoor.Mv
open Go Go.RowKit

/-- The entry of a has this stamp. -/
def StampAt {α : Type} (val : α → Value) (w : World) (b : Nat) (l : List (α × Value)) (a : α) (s : Nat) : Prop :=
  ∃ (es : Array MapEntry) (clock i : Nat) (e : MapEntry) (v : Value), w.heap[b]? = some (.map es clock) ∧ Ents val es clock l ∧ es[i]? = some e ∧ e.born = s ∧ l[i]? = some (a, v)
section
variable {P : Program} {α : Type} {val : α → Value} {w w' : World} {b s : Nat} {l : List (α × Value)} {a : α}
theorem StampAt.map (h : StampAt val w b l a s) : MapAt val w b l := by
  obtain ⟨es, clock, i, e, v, h1, h2, _⟩ := h
  exact ⟨es, clock, h1, h2⟩
theorem StampAt.same (h : StampAt val w b l a s) (e : w'.heap[b]? = w.heap[b]?) : StampAt val w' b l a s := by
  obtain ⟨es, clock, i, x, v, h1, h2⟩ := h
  exact ⟨es, clock, i, x, v, e.trans h1, h2⟩
variable [DecidableEq α]
theorem RunP.mapEntry {t kt e : Nat} {z : Value} {k : Value → World → Prop} (K : KeyT P kt val) (ht : P.underlying t = some (.map kt e)) (hz : ∀ w, (zeroValue e).run P w = .ok z w) (h : MapAt val w b l) (a : α)
    (hk : ∀ w' s, StampAt val w' b (setA a ((getA a l).getD z) l) a s → Upd b w w' → k (.tuple #[(getA a l).getD z, .int .i64 (s : Nat)]) w') : RunP P w (Instr.mapEntry t (.map (some b)) (val a)) k := by
  obtain ⟨es, clock, hb, r⟩ := h
  have hf := K.find a es.toList l w r.ents
  have hg := findA_get a l 0
  have hl : es.size = l.length := by have := congrArg List.length r.ents; simpa using this
  cases hq : findA a l 0 with
  | none =>
    rw [hq] at hf hg
    simp only [Option.map_none] at hg
    have hs := (findA_none a z l 0 hq).1
    have hky := setA_keys (l := l) a z r.keys
    rw [← hg] at hk
    simp only [Option.getD_none] at hk
    refine ⟨_, _, ?_, hk { w with heap := w.heap.setIfInBounds b (.map (es.push { key := val a, val := z, born := clock }) (clock + 1)) } clock ⟨_, _, es.size, { key := val a, val := z, born := clock }, z, (MapKept.heap_set hb).1, ⟨?_, ?_, ?_, hky⟩, by simp, rfl, ?_⟩ (upd_setObj hb)⟩
    · simp [Instr.mapEntry, run_underlying ht, MapKept.run_getObj_map hb, K.check, hf, hz, MapKept.run_setObj_map _ hb, goInt]
    · rw [hs]
      simp [r.ents]
    · intro x hx
      simp at hx
      rcases hx with hx | rfl
      · have := r.born x (by simpa using hx); omega
      · simp
    · rw [Array.toList_push, List.map_append, List.nodup_append]
      refine ⟨r.nodup, by simp, ?_⟩
      intro x hx y hy
      simp at hy
      subst hy
      obtain ⟨z, hz, rfl⟩ := List.mem_map.1 hx
      have := r.born z hz
      omega
    · rw [hs, hl]
      simp
  | some q =>
    rw [hq] at hf hg
    simp only [Option.map_some] at hg
    obtain ⟨_, h2, h3⟩ := findA_some a q.2 l 0 q hq
    rw [Nat.sub_zero] at h2 h3
    rw [← hg] at hk
    simp only [Option.getD_some] at hk
    have hlt : q.1 < es.size := by
      rw [hl]
      exact (List.getElem?_eq_some_iff.1 h2).1
    have hkv : (es[q.1]'hlt).key = val a ∧ (es[q.1]'hlt).val = q.2 := by
      have := congrArg (fun L => L[q.1]?) r.ents
      simpa [h2, List.getElem?_eq_getElem hlt] using this
    have hge : es[q.1]? = some (es[q.1]'hlt) := Array.getElem?_eq_getElem hlt
    have hset : setA a q.2 l = l := by
      rw [h3]
      apply List.ext_getElem?
      intro i
      rw [List.getElem?_set]
      split
      · rename_i hi
        subst hi
        rw [if_pos (List.getElem?_eq_some_iff.1 h2).1, h2]
      · rfl
    have hmod : (es.modify q.1 fun e => { e with key := val a }) = es := by
      apply Array.ext_getElem?
      intro i
      rw [Array.getElem?_modify]
      by_cases hi : q.1 = i
      · subst hi
        rw [if_pos rfl, hge]
        simp only [Option.map_some]
        rw [← hkv.1]
      · rw [if_neg hi]
    rw [hset] at hk
    refine ⟨_, _, ?_, hk { w with heap := w.heap.setIfInBounds b (.map (es.modify q.1 fun e => { e with key := val a }) clock) } (es[q.1]'hlt).born ⟨es, clock, q.1, es[q.1]'hlt, q.2, ?_, r, hge, rfl, h2⟩ (upd_setObj hb)⟩
    · simp [Instr.mapEntry, run_underlying ht, MapKept.run_getObj_map hb, K.check, hf, MapKept.run_setObj_map _ hb, hge, hkv.1, K.stays, goInt]
    · rw [hmod]
      exact (MapKept.heap_set hb).1
theorem setA_at {β : Type} {v : β} : ∀ {l : List (α × β)} {i : Nat} {x : β}, (l.map (·.1)).Nodup → l[i]? = some (a, x) → setA a v l = l.set i (a, v)
  | [], _, _, _, h => by simp at h
  | p :: r, 0, x, _, h => by
    simp at h
    subst h
    simp [setA]
  | p :: r, i + 1, x, hn, h => by
    simp only [List.map_cons, List.nodup_cons] at hn
    have hi : r[i]? = some (a, x) := by simpa using h
    have hne : a ≠ p.1 := fun e => hn.1 (e ▸ List.mem_map.2 ⟨_, List.mem_of_getElem? hi, rfl⟩)
    simp only [setA, hne, if_false, List.set_cons_succ]
    rw [setA_at hn.2 hi]
theorem DoP.entryStore {t : Nat} {v : Value} {k : Value → World → Prop} (h : StampAt val w b l a s) (hk : ∀ w', MapAt val w' b (setA a v l) → Upd b w w' → k undef w') :
    DoP P w (Instr.entryStore t (.map (some b)) (.int .i64 (s : Nat)) v) k := by
  obtain ⟨es, clock, i, e, v0, hb, r, hi, hs, hl⟩ := h
  have hlt := (Array.getElem?_eq_some_iff.1 hi).1
  have hfind : es.findIdx? (fun e => (e.born : Int) == (s : Nat)) = some i := by
    have h1 : ∃ j, es.findIdx? (fun e => (e.born : Int) == (s : Nat)) = some j := by
      cases hq : es.findIdx? (fun e => (e.born : Int) == (s : Nat)) with
      | some j => exact ⟨j, rfl⟩
      | none =>
        rw [Array.findIdx?_eq_none_iff] at hq
        have := hq e (Array.mem_of_getElem? hi)
        simp [hs] at this
    obtain ⟨j, hj⟩ := h1
    have h2 := Array.findIdx?_eq_some_iff_getElem.1 hj
    obtain ⟨hjl, hje, _⟩ := h2
    have hie : es[i] = e := (Array.getElem?_eq_some_iff.1 hi).2
    have hjs : (es[j]'hjl).born = s := by simp only [beq_iff_eq] at hje; omega
    have hnd := r.nodup
    rw [List.Nodup, List.pairwise_iff_getElem] at hnd
    have : j = i := by
      rcases Nat.lt_trichotomy j i with h | h | h
      · exact absurd (show (es.toList.map (·.born))[j]'(by simpa using hjl) = (es.toList.map (·.born))[i]'(by simpa using hlt) by simp [hjs, hie, hs]) (hnd j i (by simpa using hjl) (by simpa using hlt) h)
      · exact h
      · exact absurd (show (es.toList.map (·.born))[i]'(by simpa using hlt) = (es.toList.map (·.born))[j]'(by simpa using hjl) by simp [hjs, hie, hs]) (hnd i j (by simpa using hlt) (by simpa using hjl) h)
    rw [hj, this]
  have hset := setA_at (v := v) r.keys hl
  have hky := setA_keys a v r.keys
  refine ⟨_, ?_, hk { w with heap := w.heap.setIfInBounds b (.map (es.modify i fun e => { e with val := v }) clock) } ⟨_, _, (MapKept.heap_set hb).1, ⟨?_, ?_, ?_, hky⟩⟩ (upd_setObj hb)⟩
  · simp [Instr.entryStore, MapKept.run_getObj_map hb, asInt, asIntOf, hfind, MapKept.run_setObj_map _ hb]
  · rw [hset, List.map_set, ← r.ents, Array.toList_modify]
    apply List.ext_getElem?
    intro j
    simp only [List.getElem?_map, List.getElem?_modify, List.getElem?_set]
    have hkey : e.key = val a := by
      have := congrArg (fun L => L[i]?) r.ents
      simp [hl, hi] at this
      exact this.1
    by_cases hij : i = j
    · subst hij
      have hie : es[i] = e := (Array.getElem?_eq_some_iff.1 hi).2
      simp [hlt, hi, hie, hkey]
    · simp [hij]
  · intro x hx
    rw [Array.toList_modify] at hx
    obtain ⟨j, hj⟩ := List.mem_iff_getElem?.1 hx
    rw [List.getElem?_modify] at hj
    cases hy : es.toList[j]? with
    | none => simp [hy] at hj
    | some y =>
      have hyb := r.born y (List.mem_of_getElem? hy)
      rw [hy] at hj
      by_cases hqi : i = j
      · simp [hqi] at hj; rw [← hj]; exact hyb
      · simp [hqi] at hj; rw [← hj]; exact hyb
  · have : (es.modify i fun e => { e with val := v }).toList.map (·.born) = es.toList.map (·.born) := by
      rw [Array.toList_modify]
      apply List.ext_getElem?
      intro j
      simp only [List.getElem?_map, List.getElem?_modify]
      cases es.toList[j]? with
      | none => rfl
      | some y => by_cases hqi : i = j <;> simp [hqi]
    rw [this]
    exact r.nodup
end
end Go.Proofs.YtgeemplpgfiidaaGreatDoor.Mv
/- A region's end looked at alone; more values that are compared. No program in sight. -/
namespace Go.Proofs.YtgeemplpgfiidaaGreatDoor.Mv
open Go Go.RowKit
section
variable {P : Program}
theorem DrawP.cut {n id : Nat} {ops : List Oper} {Q : Exit → Env → World → Prop} {E : Env} {w : World} {σ : Type} (V : σ → Env) (I : σ → World → Prop)
    (h : DrawP P n id ops (fun e E' w' => match e with | .normal => ∃ s, Holds E' (V s) ∧ I s w' | _ => False) E w) (hk : ∀ s w', I s w' → Q .normal (V s) w') : DrawP P n id ops Q E w := by
  refine ⟨fun a hA => wp_mono (h.out a hA) ?_⟩
  intro e a' w' hl
  cases e with
  | normal =>
    obtain ⟨E', hA', hS, s, hV, hI⟩ := hl
    exact ⟨V s, hA'.weaken (holds_get hV) (holds_marks hV), hS, hk s w' hI⟩
  | panic c => obtain ⟨_, _, h⟩ := hl; exact h.elim
  | outgrown => obtain ⟨_, _, _, h⟩ := hl; exact h.elim
  | ret => obtain ⟨_, _, _, h⟩ := hl; exact h.elim
  | exit id => obtain ⟨_, _, _, h⟩ := hl; exact h.elim
  | goto t => obtain ⟨_, _, _, h⟩ := hl; exact h.elim
theorem DrawP.cut2 {n id : Nat} {ops : List Oper} {Q : Exit → Env → World → Prop} {E : Env} {w : World} {α β : Type} (V : α → β → Env) (I : α → β → World → Prop)
    (h : DrawP P n id ops (fun e E' w' => match e with | .normal => ∃ a b, Holds E' (V a b) ∧ I a b w' | _ => False) E w) (hk : ∀ a b w', I a b w' → Q .normal (V a b) w') : DrawP P n id ops Q E w := by
  refine ⟨fun a hA => wp_mono (h.out a hA) ?_⟩
  intro e a' w' hl
  cases e with
  | normal =>
    obtain ⟨E', hA', hS, s, t, hV, hI⟩ := hl
    exact ⟨V s t, hA'.weaken (holds_get hV) (holds_marks hV), hS, hk s t w' hI⟩
  | panic c => obtain ⟨_, _, h⟩ := hl; exact h.elim
  | outgrown => obtain ⟨_, _, _, h⟩ := hl; exact h.elim
  | ret => obtain ⟨_, _, _, h⟩ := hl; exact h.elim
  | exit id => obtain ⟨_, _, _, h⟩ := hl; exact h.elim
  | goto t => obtain ⟨_, _, _, h⟩ := hl; exact h.elim
theorem DrawP.cut3 {n id : Nat} {ops : List Oper} {Q : Exit → Env → World → Prop} {E : Env} {w : World} {α β γ : Type} (V : α → β → γ → Env) (I : α → β → γ → World → Prop)
    (h : DrawP P n id ops (fun e E' w' => match e with | .normal => ∃ a b c, Holds E' (V a b c) ∧ I a b c w' | _ => False) E w) (hk : ∀ a b c w', I a b c w' → Q .normal (V a b c) w') : DrawP P n id ops Q E w := by
  refine ⟨fun a hA => wp_mono (h.out a hA) ?_⟩
  intro e a' w' hl
  cases e with
  | normal =>
    obtain ⟨E', hA', hS, s, t, u, hV, hI⟩ := hl
    exact ⟨V s t u, hA'.weaken (holds_get hV) (holds_marks hV), hS, hk s t u w' hI⟩
  | panic c => obtain ⟨_, _, h⟩ := hl; exact h.elim
  | outgrown => obtain ⟨_, _, _, h⟩ := hl; exact h.elim
  | ret => obtain ⟨_, _, _, h⟩ := hl; exact h.elim
  | exit id => obtain ⟨_, _, _, h⟩ := hl; exact h.elim
  | goto t => obtain ⟨_, _, _, h⟩ := hl; exact h.elim

theorem EqP.bool {S : World → Prop} {op : BinOp} {t : TypeId} {x y : Operand} {a b : Bool} {k : Bool → Prop} (hop : op = .eql ∨ op = .neq) (ht : P.underlying t = some .bool) (hk : k (if op = .eql then a == b else a != b)) :
    EqP P S op t x y (.bool a) (.bool b) k := by
  refine ⟨_, fun w _ => ?_, hk⟩
  have he : (Op.equalIn 10000 t (.bool a) (.bool b)).run P w = .ok (a == b) w := by
    rw [show (10000 : Nat) = 9999 + 1 from rfl, Op.equalIn]
    simp [run_underlying ht]
  rcases hop with rfl | rfl
  · refine ⟨by simp [eqGuard], ?_⟩
    simp [binOp, Op.equal, Op.maxDepth, he]
  · refine ⟨by simp [eqGuard], ?_⟩
    simp [binOp, Op.equal, Op.maxDepth, he]
    cases a <;> cases b <;> rfl

theorem EqT.tri {t t0 t1 t2 l0 l1 l2 : Nat} {α β δ γ : Type} [DecidableEq α] [DecidableEq β] [DecidableEq δ] [DecidableEq γ] {v0 : α → Value} {v1 : β → Value} {v2 : δ → Value} {v : γ → Value} {p0 : γ → α} {p1 : γ → β} {p2 : γ → δ} {f0 f1 f2 : Field} {cs : γ → List Value}
    (hu' : P.underlying t = some (.struct #[f0, f1, f2])) (hp : P.stoodInHeld t = false)
    (hn : f0.name ≠ "_" ∧ f1.name ≠ "_" ∧ f2.name ≠ "_") (ht : f0.type = t0 ∧ f1.type = t1 ∧ f2.type = t2)
    (hv : ∀ c, v c = .agg (cs c).toArray)
    (h0 : ∀ c w, (part t0 (cs c).toArray f0.offset).run P w = .ok (v0 (p0 c)) w) (h1 : ∀ c w, (part t1 (cs c).toArray f1.offset).run P w = .ok (v1 (p1 c)) w) (h2 : ∀ c w, (part t2 (cs c).toArray f2.offset).run P w = .ok (v2 (p2 c)) w)
    (hinj : ∀ c d, c = d ↔ p0 c = p0 d ∧ p1 c = p1 d ∧ p2 c = p2 d)
    (E0 : EqT P t0 l0 v0) (E1 : EqT P t1 l1 v1) (E2 : EqT P t2 l2 v2) : EqT P t (max l0 (max l1 l2) + 1) v := by
  obtain ⟨rfl, rfl, rfl⟩ := ht
  have hf : P.fieldsOf t = #[f0, f1, f2] := by simp [Program.fieldsOf, hu']
  have hu : P.underlying t = some (.struct (P.fieldsOf t)) := by rw [hf]; exact hu'
  refine ⟨fun d hd a b w => ?_, fun d em hd a w => ?_⟩
  · obtain ⟨d, rfl⟩ : ∃ m, d = m + 1 := ⟨d - 1, by omega⟩
    rw [hv, hv, run_equalIn_struct w d t _ _ hu hp, hf]
    simp only [Op.eqFields, hn.1, hn.2.1, hn.2.2, ne_eq, not_false_eq_true, if_true, Sem.run_bind, h0, h1, h2, Result.andThen_ok, E0.eq d (by omega), E1.eq d (by omega), E2.eq d (by omega)]
    have hi := hinj a b
    by_cases e0 : p0 a = p0 b
    · by_cases e1 : p1 a = p1 b
      · by_cases e2 : p2 a = p2 b
        · have := hi.2 ⟨e0, e1, e2⟩
          subst this
          simp [h1, h2, E1.eq d (by omega), E2.eq d (by omega)]
        · have : ¬ a = b := fun e => e2 (hi.1 e).2.2
          simp [e0, e1, e2, this, h1, h2, E1.eq d (by omega), E2.eq d (by omega)]
      · have : ¬ a = b := fun e => e1 (hi.1 e).2.1
        simp [e0, e1, this, h1, E1.eq d (by omega)]
    · have : ¬ a = b := fun e => e0 (hi.1 e).1
      simp [e0, this]
  · obtain ⟨d, rfl⟩ : ∃ m, d = m + 1 := ⟨d - 1, by omega⟩
    rw [hv, Instr.checkKey]
    simp [run_underlying hu', hn.1, hn.2.1, hn.2.2, h0, h1, h2, E0.check d em (by omega), E1.check d em (by omega), E2.check d em (by omega)]
end
end Go.Proofs.YtgeemplpgfiidaaGreatDoor.Mv
