/- What memory holds, and the rules for the events that read and write it. No program in sight. -/
import Derived.Test.YtgeemplpgfiidaaGreatDoorLa
import Derived.Laws.AppendOwn
import Derived.OwnWalk
import Derived.Test.YtgeemplpgfiidaaGreatDoorProg
import Derived.KernelRfl
namespace Go.Proofs.YtgeemplpgfiidaaGreatDoor.Mv
open Go Go.RowKit

/-! ### Worlds that go on -/
abbrev Ext (w w' : World) : Prop := Below w.heap.size w w'
theorem Ext.refl (w : World) : Ext w w := Below.refl _ _
theorem Ext.trans {a b c : World} (h : Ext a b) (k : Ext b c) : Ext a c := Below.trans h (Below.mono k h.size)
theorem below_ext {B : Nat} {a b c : World} (h : Below B a b) (k : Ext b c) (hB : B ≤ b.heap.size) : Below B a c := h.trans (Below.mono k hB)
theorem Ext.drew (w : World) : Ext w { w with drawn := w.drawn + 1 } := ⟨rfl, rfl, rfl, Nat.le_refl _, fun _ _ => rfl⟩

/-- Of the old blocks, b alone may have turned. -/
structure Upd (b : Nat) (w w' : World) : Prop where
  os : w'.os = w.os
  tape : w'.tape = w.tape
  output : w'.output = w.output
  size : w.heap.size ≤ w'.heap.size
  block : ∀ k, k < w.heap.size → k ≠ b → w'.heap[k]? = w.heap[k]?
theorem Upd.below {B b : Nat} {w w' : World} (h : Upd b w w') (hb : B ≤ b) (hB : B ≤ w.heap.size) : Below B w w' :=
  ⟨h.os, h.tape, h.output, h.size, fun k hk => h.block k (by omega) (by omega)⟩
theorem below_upd {B b : Nat} {a w w' : World} (h : Below B a w) (k : Upd b w w') (hb : B ≤ b) (hB : B ≤ w.heap.size) : Below B a w' := h.trans (k.below hb hB)
theorem Upd.of_ext {b : Nat} {w w' : World} (h : Ext w w') : Upd b w w' := ⟨h.os, h.tape, h.output, h.size, fun k hk _ => h.block k hk⟩
theorem Upd.trans {b : Nat} {x y z : World} (h : Upd b x y) (k : Upd b y z) : Upd b x z :=
  ⟨k.os.trans h.os, k.tape.trans h.tape, k.output.trans h.output, Nat.le_trans h.size k.size, fun i hi hn => (k.block i (Nat.lt_of_lt_of_le hi h.size) hn).trans (h.block i hi hn)⟩
theorem Upd.refl (b : Nat) (w : World) : Upd b w w := ⟨rfl, rfl, rfl, Nat.le_refl _, fun _ _ _ => rfl⟩
theorem Upd.of_grown {g : Nat} {w w' : World} (h : w.grownBy w' (some g)) : Upd g w w' := ⟨h.os, h.tape, h.output, h.size, fun k hk hn => h.block k hk (fun e => hn (Option.some.inj e))⟩
theorem Ext.of_grown {w w' : World} (h : w.grownBy w' none) : Ext w w' := ⟨h.os, h.tape, h.output, h.size, fun k hk => h.block k hk (by simp)⟩

/-! ### Cells -/
def CellsAt (w : World) (b o : Nat) (cs : List Value) : Prop := ∀ j u, cs[j]? = some u → w.cell? ⟨b, o + j, none⟩ = some u

theorem block_lt {w : World} {b o : Nat} {u : Value} (h : w.cell? ⟨b, o, none⟩ = some u) : b < w.heap.size := World.block_lt_of_cell? w ⟨b, o, none⟩ h

theorem cell_ext {w w' : World} {b o : Nat} {u : Value} (h : w.cell? ⟨b, o, none⟩ = some u) (e : Ext w w') : w'.cell? ⟨b, o, none⟩ = some u :=
  (World.cell?_of_block (e.block b (block_lt h))).trans h
theorem cell_upd {w w' : World} {b c o : Nat} {u : Value} (h : w.cell? ⟨b, o, none⟩ = some u) (e : Upd c w w') (hn : b ≠ c) : w'.cell? ⟨b, o, none⟩ = some u :=
  (World.cell?_of_block (e.block b (block_lt h) hn)).trans h
theorem cell_below {B : Nat} {w w' : World} {b o : Nat} {u : Value} (h : w.cell? ⟨b, o, none⟩ = some u) (e : Below B w w') (hb : b < B) : w'.cell? ⟨b, o, none⟩ = some u :=
  (World.cell?_of_block (e.block b hb)).trans h

theorem CellsAt.ext {w w' : World} {b o : Nat} {cs : List Value} (h : CellsAt w b o cs) (e : Ext w w') : CellsAt w' b o cs := fun j u hu => cell_ext (h j u hu) e
theorem CellsAt.upd {w w' : World} {b c o : Nat} {cs : List Value} (h : CellsAt w b o cs) (e : Upd c w w') (hn : b ≠ c) : CellsAt w' b o cs := fun j u hu => cell_upd (h j u hu) e hn
theorem CellsAt.mid {w : World} {b o : Nat} {pre mid post : List Value} (h : CellsAt w b o (pre ++ mid ++ post)) : CellsAt w b (o + pre.length) mid := by
  intro j u hu
  have hj : j < mid.length := (List.getElem?_eq_some_iff.1 hu).1
  rw [Nat.add_assoc]
  refine h (pre.length + j) u ?_
  rw [List.append_assoc, List.getElem?_append_right (by omega), List.getElem?_append_left (by omega)]
  rw [show pre.length + j - pre.length = j by omega]
  exact hu
theorem CellsAt.take {w : World} {b o : Nat} {mid post : List Value} (h : CellsAt w b o (mid ++ post)) : CellsAt w b o mid := by
  have := CellsAt.mid (pre := []) (mid := mid) (post := post) (by simpa using h)
  simpa using this

/-- A block of the call's own: b holds just these cells, and may be written. -/
def Own (w : World) (b : Nat) (cs : List Value) : Prop := ∃ t, w.heap[b]? = some (.cells cs.toArray t (0, 0))

theorem Own.lt {w : World} {b : Nat} {cs : List Value} (h : Own w b cs) : b < w.heap.size := by
  obtain ⟨t, h⟩ := h
  exact (Array.getElem?_eq_some_iff.1 h).1
theorem Own.cell {w : World} {b : Nat} {cs : List Value} (h : Own w b cs) (o : Nat) : w.cell? ⟨b, o, none⟩ = cs[o]? := by
  obtain ⟨t, h⟩ := h
  simp [World.cell?, h]
theorem Own.cells {w : World} {b : Nat} {cs : List Value} (h : Own w b cs) : CellsAt w b 0 cs := fun j u hu => by rw [h.cell]; simpa using hu
theorem Own.ext {w w' : World} {b : Nat} {cs : List Value} (h : Own w b cs) (e : Ext w w') : Own w' b cs := by
  have hb := h.lt
  obtain ⟨t, h⟩ := h
  exact ⟨t, (e.block b hb).trans h⟩
theorem Own.upd {w w' : World} {b c : Nat} {cs : List Value} (h : Own w b cs) (e : Upd c w w') (hn : b ≠ c) : Own w' b cs := by
  have hb := h.lt
  obtain ⟨t, h⟩ := h
  exact ⟨t, (e.block b hb hn).trans h⟩
theorem Own.below {B : Nat} {w w' : World} {b : Nat} {cs : List Value} (h : Own w b cs) (e : Below B w w') (hb : b < B) : Own w' b cs := by
  obtain ⟨t, h⟩ := h
  exact ⟨t, (e.block b hb).trans h⟩
theorem Own.frozen {w : World} {b : Nat} {cs : List Value} (h : Own w b cs) (o : Nat) : w.frozen? ⟨b, o, none⟩ = false := by
  obtain ⟨t, h⟩ := h
  simp [World.frozen?, h]

/-! ### Types -/
structure TyF (P : Program) (t : Nat) (agg : Bool) (size : Nat) : Prop where
  agg : ∀ w, (isAgg t).run P w = .ok agg w
  size : ∀ w, (sizeOf t).run P w = .ok size w

section
variable {P : Program} {w : World}

/-! ### Loads -/
theorem run_loadVar_cell {t n b o : Nat} {v : Value} (ht : TyF P t false n) (h : w.cell? ⟨b, o, none⟩ = some v) : (loadVar t ⟨b, o, none⟩).run P w = .ok v w := by
  simp [loadVar, ht.agg, h]
theorem run_loadVar_cells {t n b o : Nat} {cs : List Value} (ht : TyF P t true n) (hn : cs.length = n) (h : CellsAt w b o cs) : (loadVar t ⟨b, o, none⟩).run P w = .ok (.agg cs.toArray) w := by
  have hl : (loadCells ⟨b, o, none⟩ cs.length).run P w = .ok cs.toArray w := run_loadCells_list w ⟨b, o, none⟩ cs (fun j v hv => by rw [Addr.add_lit]; exact h j v hv)
  subst hn
  simp [loadVar, ht.agg, ht.size, hl]

theorem GetP.ldS {S : World → Prop} {t n b o : Nat} {v : Value} {k : Value → Prop} (ht : TyF P t false n) (h : ∀ w, S w → w.cell? ⟨b, o, none⟩ = some v) (hk : k v) :
    GetP P S (Instr.loadAt t (.pointer (some ⟨b, o, none⟩))) k :=
  ⟨v, fun w hw => by simp [Instr.loadAt, Instr.sureAddr, run_loadVar_cell ht (h w hw)], hk⟩
theorem GetP.ldsS {S : World → Prop} {t n b o : Nat} {cs : List Value} {k : Value → Prop} (ht : TyF P t true n) (hn : cs.length = n) (h : ∀ w, S w → CellsAt w b o cs) (hk : k (.agg cs.toArray)) :
    GetP P S (Instr.loadAt t (.pointer (some ⟨b, o, none⟩))) k :=
  ⟨_, fun w hw => by simp [Instr.loadAt, Instr.sureAddr, run_loadVar_cells ht hn (h w hw)], hk⟩
theorem GetP.ld {t n b o : Nat} {v : Value} {k : Value → Prop} (ht : TyF P t false n) (h : w.cell? ⟨b, o, none⟩ = some v) (hk : k v) :
    GetP P (fun w' => w' = w) (Instr.loadAt t (.pointer (some ⟨b, o, none⟩))) k := GetP.ldS ht (fun _ e => e ▸ h) hk
theorem GetP.lds {t n b o : Nat} {cs : List Value} {k : Value → Prop} (ht : TyF P t true n) (hn : cs.length = n) (h : CellsAt w b o cs) (hk : k (.agg cs.toArray)) :
    GetP P (fun w' => w' = w) (Instr.loadAt t (.pointer (some ⟨b, o, none⟩))) k := GetP.ldsS ht hn (fun _ e => e ▸ h) hk
/-- A result that lies in memory. -/
theorem GetP.res {t n b o : Nat} {v : Value} {k : Value → Prop} (ht : TyF P t false n) (h : w.cell? ⟨b, o, none⟩ = some v) (hk : k v) :
    GetP P (fun w' => w' = w) (loadVar t ⟨b, o, none⟩) k := ⟨v, fun _ e => e ▸ run_loadVar_cell ht h, hk⟩
theorem GetP.ress {t n b o : Nat} {cs : List Value} {k : Value → Prop} (ht : TyF P t true n) (hn : cs.length = n) (h : CellsAt w b o cs) (hk : k (.agg cs.toArray)) :
    GetP P (fun w' => w' = w) (loadVar t ⟨b, o, none⟩) k := ⟨_, fun _ e => e ▸ run_loadVar_cells ht hn h, hk⟩

/-! ### New blocks -/
theorem ext_alloc (w : World) (o : Obj) : Ext w (w.alloc o) := (Below.refl _ _).alloc (Nat.le_refl _) o
theorem own_alloc (w : World) (cs : List Value) (t : TypeId) : Own (w.alloc (.cells cs.toArray t)) w.heap.size cs := ⟨t, by rw [heap_alloc_new]⟩

theorem RunP.box {e : Nat} {v : Value} {k : Value → World → Prop} (hk : ∀ b w', w.heap.size ≤ b → Own w' b v.cells.toList → Ext w w' → k (.pointer (some ⟨b, 0, none⟩)) w') :
    RunP P w (Instr.box e v) k :=
  ⟨.pointer (some ⟨w.heap.size, 0, none⟩), w.alloc (.cells v.cells e), by simp [Instr.box, newVar, newRow], hk _ _ (Nat.le_refl _) (by have := own_alloc w v.cells.toList e; simpa using this) (ext_alloc _ _)⟩

theorem RunP.new {e : Nat} {z : Value} {k : Value → World → Prop} (hz : ∀ w, (zeroValue e).run P w = .ok z w)
    (hk : ∀ b w', w.heap.size ≤ b → Own w' b z.cells.toList → Ext w w' → k (.pointer (some ⟨b, 0, none⟩)) w') :
    RunP P w (Instr.alloc e true (.tuple #[])) k :=
  ⟨.pointer (some ⟨w.heap.size, 0, none⟩), w.alloc (.cells z.cells e), by simp [Instr.alloc, hz, newVar, newRow], hk _ _ (Nat.le_refl _) (by have := own_alloc w z.cells.toList e; simpa using this) (ext_alloc _ _)⟩

/-! ### Stores -/
theorem upd_setRow (w : World) (g : Nat) (cs : Array Value) : Upd g w (w.setRow g cs) :=
  ⟨rfl, rfl, rfl, by simp, fun k _ hn => setRow_other w g k cs hn⟩

theorem DoP.sts {t n b o : Nat} {cs vs : List Value} {k : Value → World → Prop} (ht : TyF P t true n) (hO : Own w b cs) (hn : vs.length = n) (hl : o + n ≤ cs.length) (h1 : ∀ u ∈ vs, u.oneCell' = true)
    (hk : ∀ w', Own w' b (cs.take o ++ vs ++ cs.drop (o + n)) → Upd b w w' → k undef w') :
    DoP P w (Instr.storeAt t (.pointer (some ⟨b, o, none⟩)) (.agg vs.toArray)) k := by
  obtain ⟨ty, hO'⟩ := hO
  subst hn
  have hst := run_storeCells_at P b o ty vs 0 cs.toArray w hO' (by simpa using hl) h1
  refine ⟨_, ?_, hk (w.setRow b (cs.take o ++ vs ++ cs.drop (o + vs.length)).toArray) ⟨ty, setRow_heap _ _ _ _ _ _ hO'⟩ (upd_setRow _ _ _)⟩
  simp [Instr.storeAt, Instr.sureAddr, storeVar, ht.size, Value.cells]
  simpa using hst

theorem DoP.sts0 {t n b : Nat} {cs vs : List Value} {k : Value → World → Prop} (ht : TyF P t true n) (hO : Own w b cs) (hn : vs.length = n) (hl : cs.length = n) (h1 : ∀ u ∈ vs, u.oneCell' = true)
    (hk : ∀ w', Own w' b vs → Upd b w w' → k undef w') :
    DoP P w (Instr.storeAt t (.pointer (some ⟨b, 0, none⟩)) (.agg vs.toArray)) k :=
  DoP.sts ht hO hn (by omega) h1 fun w' h u => hk w' (by simpa [← hl] using h) u

theorem DoP.st {t n b o : Nat} {cs : List Value} {v : Value} {k : Value → World → Prop} (ht : TyF P t false n) (hn : n = 1) (hO : Own w b cs) (hl : o < cs.length) (h1 : v.oneCell' = true)
    (hk : ∀ w', Own w' b (cs.set o v) → Upd b w w' → k undef w') :
    DoP P w (Instr.storeAt t (.pointer (some ⟨b, o, none⟩)) v) k := by
  obtain ⟨ty, hO'⟩ := hO
  subst hn
  have hst := run_storeCells_at P b o ty [v] 0 cs.toArray w hO' (by simp; omega) (by simpa using h1)
  have hc : v.cells = #[v] := by cases v <;> first | rfl | simp [Value.oneCell'] at h1
  refine ⟨_, ?_, hk (w.setRow b (cs.set o v).toArray) ⟨ty, setRow_heap _ _ _ _ _ _ hO'⟩ (upd_setRow _ _ _)⟩
  have he : cs.take o ++ [v] ++ cs.drop (o + 1) = cs.set o v := by
    rw [List.set_eq_take_append_cons_drop, if_pos hl]; simp
  simp [Instr.storeAt, Instr.sureAddr, storeVar, ht.size, hc]
  simp at hst
  rw [hst]
  simp at he
  rw [he]
end

/-! ### Slices -/
/-- How the elements of a kind lie in cells. -/
structure Cod (α : Type) where
  cells : α → List Value
  size : Nat
  pos : 0 < size
  len : ∀ a, (cells a).length = size
  one : ∀ a, ∀ u ∈ cells a, u.oneCell' = true

def Cod.all {α : Type} (C : Cod α) (l : List α) : List Value := l.flatMap C.cells
theorem Cod.all_len {α : Type} (C : Cod α) (l : List α) : (C.all l).length = l.length * C.size := by
  unfold Cod.all
  induction l with
  | nil => simp
  | cons a r ih => simp only [List.flatMap_cons, List.length_append, ih, C.len, List.length_cons, Nat.add_mul]; omega
theorem Cod.all_append {α : Type} (C : Cod α) (l m : List α) : C.all (l ++ m) = C.all l ++ C.all m := by simp [Cod.all]
theorem Cod.all_one {α : Type} (C : Cod α) (l : List α) : ∀ u ∈ C.all l, u.oneCell' = true := by
  intro u hu
  obtain ⟨a, _, ha⟩ := List.mem_flatMap.1 hu
  exact C.one a u ha
theorem Cod.split {α : Type} (C : Cod α) {l : List α} {i : Nat} (h : i < l.length) : C.all l = C.all (l.take i) ++ C.cells l[i] ++ C.all (l.drop (i + 1)) := by
  have : l = l.take i ++ [l[i]] ++ l.drop (i + 1) := by simp
  conv => lhs; rw [this]
  rw [Cod.all_append, Cod.all_append]
  simp [Cod.all]

/-- A slice that reads as a list. -/
def Seq {α : Type} (C : Cod α) (w : World) (v : Value) (l : List α) : Prop :=
  (v = .slice none 0 0 ∧ l = []) ∨ ∃ b o cap, v = .slice (some ⟨b, o, none⟩) l.length cap ∧ l.length ≤ cap ∧ b < w.heap.size ∧ CellsAt w b o (C.all l)

theorem Seq.nil {α : Type} (C : Cod α) (w : World) : Seq C w (.slice none 0 0) [] := .inl ⟨rfl, rfl⟩
theorem Seq.ext {α : Type} {C : Cod α} {w w' : World} {v : Value} {l : List α} (h : Seq C w v l) (e : Ext w w') : Seq C w' v l := by
  rcases h with h | ⟨b, o, cap, hv, hc, hb, h⟩
  · exact .inl h
  · exact .inr ⟨b, o, cap, hv, hc, Nat.lt_of_lt_of_le hb e.size, h.ext e⟩
/-- The block in which a slice lies. -/
def inBlock (v : Value) (b : Nat) : Prop := ∃ o n c, v = .slice (some ⟨b, o, none⟩) n c
theorem Seq.upd {α : Type} {C : Cod α} {w w' : World} {v : Value} {l : List α} {g : Nat} (h : Seq C w v l) (e : Upd g w w') (hn : ¬ inBlock v g) : Seq C w' v l := by
  rcases h with h | ⟨b, o, cap, hv, hc, hb, h⟩
  · exact .inl h
  · exact .inr ⟨b, o, cap, hv, hc, Nat.lt_of_lt_of_le hb e.size, h.upd e (fun he => hn (he ▸ ⟨o, _, cap, hv⟩))⟩
theorem Seq.lt {α : Type} {C : Cod α} {w : World} {v : Value} {l : List α} {g : Nat} (h : Seq C w v l) (hg : inBlock v g) : g < w.heap.size := by
  obtain ⟨o', n', c', hv'⟩ := hg
  rcases h with ⟨h, _⟩ | ⟨b, o, cap, hv, hc, hb, h⟩
  · rw [h] at hv'; cases hv'
  · rw [hv] at hv'; cases hv'; exact hb
theorem Seq.below {α : Type} {C : Cod α} {B : Nat} {w w' : World} {v : Value} {l : List α} (h : Seq C w v l) (e : Below B w w') (hB : w.heap.size ≤ B) : Seq C w' v l :=
  h.ext (Below.mono e hB)

section
variable {P : Program} {w : World}

/-- The address of an element: it holds that element. -/
def ElemAt {α : Type} (C : Cod α) (w : World) (p : Addr) (a : α) : Prop := ∃ b o, p = ⟨b, o, none⟩ ∧ CellsAt w b o (C.cells a)

theorem run_indexAt_seq {α : Type} {C : Cod α} {t e : Nat} {v : Value} {l : List α} {kd : IntKind} {n : Int} (hu : ∀ w, (underlying t).run P w = .ok (.slice e) w) (hs : ∀ w, (sizeOf e).run P w = .ok C.size w)
    (h : Seq C w v l) (h0 : 0 ≤ n) (h1 : n < l.length) :
    ∃ b o, (∀ w, (Instr.indexAt t v (.int kd n)).run P w = .ok (.pointer (some ⟨b, o, none⟩)) w) ∧ CellsAt w b o (C.cells (l[n.toNat]'(by omega))) := by
  rcases h with ⟨_, rfl⟩ | ⟨b, o, cap, rfl, hc, hb, h⟩
  · simp at h1; omega
  · refine ⟨b, o + n.toNat * C.size, fun w => ?_, ?_⟩
    · simp [Instr.indexAt, asIntOf, hu, hs, h0, h1]
      by_cases hz : n.toNat * C.size = 0
      · simp only [Addr.add, hz, if_true, Nat.add_zero]
      · simp only [Addr.add, hz, if_false]
    · rw [C.split (i := n.toNat) (by omega)] at h
      have := h.mid
      rw [C.all_len, List.length_take, Nat.min_eq_left (by omega)] at this
      exact this

theorem GetP.idxS {α : Type} {C : Cod α} {S : World → Prop} {t e : Nat} {v : Value} {l : List α} {kd : IntKind} {n : Int} {k : Value → Prop} (hu : ∀ w, (underlying t).run P w = .ok (.slice e) w)
    (hs : ∀ w, (sizeOf e).run P w = .ok C.size w) (h : Seq C w v l) (h0 : 0 ≤ n) (h1 : n < l.length)
    (hk : ∀ b o, CellsAt w b o (C.cells (l[n.toNat]'(by omega))) → k (.pointer (some ⟨b, o, none⟩))) : GetP P S (Instr.indexAt t v (.int kd n)) k := by
  obtain ⟨b, o, hr, hc⟩ := run_indexAt_seq (P := P) (kd := kd) hu hs h h0 h1
  exact ⟨_, fun w _ => hr w, hk b o hc⟩

theorem GetP.lenS {α : Type} {C : Cod α} {S : World → Prop} {t e : Nat} {v : Value} {l : List α} {k : Value → Prop} (hu : ∀ w, (underlying t).run P w = .ok (.slice e) w)
    (h : Seq C w v l) (hk : k (.int .i64 l.length)) : GetP P S (Builtin.len_ #[t] 0 [v].toArray) k := by
  rcases h with ⟨rfl, rfl⟩ | ⟨b, o, cap, rfl, hc, hb, h⟩
  · exact ⟨.int .i64 0, fun w _ => by simp [Builtin.len_, hu, goInt], hk⟩
  · exact ⟨.int .i64 l.length, fun w _ => by simp [Builtin.len_, hu, goInt], hk⟩

theorem GetP.lenStr {S : World → Prop} {t : Nat} {s : ByteArray} {k : Value → Prop} (hu : ∀ w, (underlying t).run P w = .ok .string w) (hk : k (.int .i64 s.size)) :
    GetP P S (Builtin.len_ #[t] 0 [.string s].toArray) k :=
  ⟨.int .i64 s.size, fun w _ => by simp [Builtin.len_, hu, goInt], hk⟩

/-- A part of a slice. -/
theorem Seq.sub {α : Type} {C : Cod α} {v : Value} {l : List α} (h : Seq C w v l) {t e : Nat} (hu : ∀ w, (underlying t).run P w = .ok (.slice e) w) (hs : ∀ w, (sizeOf e).run P w = .ok C.size w)
    (lo hi : Option Value) (i j : Nat) (hlo : (lo = none ∧ i = 0) ∨ ∃ kd, lo = some (.int kd i)) (hhi : (hi = none ∧ j = l.length) ∨ ∃ kd, hi = some (.int kd j)) (hij : i ≤ j) (hj : j ≤ l.length) :
    ∃ v', (∀ w, (Instr.sliceAt t v lo hi none).run P w = .ok v' w) ∧ Seq C w v' ((l.take j).drop i) ∧ (∀ b, inBlock v' b → inBlock v b) := by
  have hb : ∀ (w : World) (len cap : Nat), len = l.length → len ≤ cap → (Instr.sliceBounds true len cap lo hi none).run P w = .ok (i, j, cap) w := by
    intro w len cap hlen hcap
    subst hlen
    rcases hlo with ⟨rfl, rfl⟩ | ⟨kl, rfl⟩ <;> rcases hhi with ⟨rfl, rfl⟩ | ⟨kh, rfl⟩ <;> simp [Instr.sliceBounds, Instr.sliceBound, asIntOf] <;> (try omega)
    all_goals (repeat (first | (rw [if_pos (by omega)]) | simp))
  have hlen : ((l.take j).drop i).length = j - i := by simp; omega
  rcases h with ⟨rfl, rfl⟩ | ⟨b, o, cap, rfl, hc, hbl, h⟩
  · have hi0 : i = 0 := by simp at hj; omega
    have hj0 : j = 0 := by simp at hj; omega
    subst hi0 hj0
    refine ⟨.slice none 0 0, fun w => ?_, .inl ⟨rfl, by simp⟩, fun b hb => hb⟩
    have := hb w 0 0 rfl (Nat.le_refl _)
    simp [Instr.sliceAt, Instr.slice, hu, this, hs]
  · have hcells : CellsAt w b (o + i * C.size) (C.all ((l.take j).drop i)) := by
      have e1 : l = l.take i ++ (l.take j).drop i ++ l.drop j := by
        have h1 : l = l.take j ++ l.drop j := (List.take_append_drop _ _).symm
        have h2 : l.take j = (l.take j).take i ++ (l.take j).drop i := (List.take_append_drop _ _).symm
        have h3 : (l.take j).take i = l.take i := by rw [List.take_take, Nat.min_eq_left hij]
        rw [h3] at h2
        conv => lhs; rw [h1, h2]
      rw [e1, C.all_append, C.all_append] at h
      have := h.mid
      rwa [C.all_len, List.length_take, Nat.min_eq_left (by omega)] at this
    refine ⟨.slice (if cap = i then some ⟨b, o, none⟩ else some ⟨b, o + i * C.size, none⟩) (j - i) (cap - i), fun w => ?_, ?_, ?_⟩
    · have := hb w l.length cap rfl hc
      simp [Instr.sliceAt, Instr.slice, hu, this, hs]
      by_cases hci : cap = i
      · simp [hci]
      · simp only [hci, if_false]
        by_cases hz : i * C.size = 0
        · simp only [Addr.add, hz, if_true, Nat.add_zero]
        · simp only [Addr.add, hz, if_false]
    · by_cases hci : cap = i
      · rw [if_pos hci]
        have hz : j - i = 0 := by omega
        have he : (l.take j).drop i = [] := List.eq_nil_of_length_eq_zero (by rw [hlen, hz])
        refine .inr ⟨b, o, cap - i, by rw [hlen], by rw [hlen]; omega, hbl, ?_⟩
        rw [he]
        intro k u hu
        simp [Cod.all] at hu
      · rw [if_neg hci]
        exact .inr ⟨b, o + i * C.size, cap - i, by rw [hlen], by rw [hlen]; omega, hbl, hcells⟩
    · rintro b' ⟨o', n', c', hv⟩
      by_cases hci : cap = i
      · rw [if_pos hci] at hv; cases hv; exact ⟨o, _, cap, rfl⟩
      · rw [if_neg hci] at hv; cases hv; exact ⟨o, _, cap, rfl⟩

theorem GetP.subS {α : Type} {C : Cod α} {S : World → Prop} {v : Value} {l : List α} {k : Value → Prop} (h : Seq C w v l) {t e : Nat} (hu : ∀ w, (underlying t).run P w = .ok (.slice e) w)
    (hs : ∀ w, (sizeOf e).run P w = .ok C.size w) {lo hi : Option Value} (i j : Nat) (hlo : (lo = none ∧ i = 0) ∨ ∃ kd, lo = some (.int kd i)) (hhi : (hi = none ∧ j = l.length) ∨ ∃ kd, hi = some (.int kd j))
    (hij : i ≤ j) (hj : j ≤ l.length) (hk : ∀ v', Seq C w v' ((l.take j).drop i) → (∀ b, inBlock v' b → inBlock v b) → k v') : GetP P S (Instr.sliceAt t v lo hi none) k := by
  obtain ⟨v', hr, hq, hb⟩ := h.sub (P := P) hu hs lo hi i j hlo hhi hij hj
  exact ⟨v', fun w _ => hr w, hk v' hq hb⟩

/-! ### Slices of the call's own, that grow -/
/-- v is nil, or starts at the head of a block from base on, whose first elements are l. -/
def Grow {α : Type} (C : Cod α) (e base : Nat) (w : World) (v : Value) (l : List α) : Prop := w.ownsRow base e C.size v l.length (C.all l)

theorem Grow.nil {α : Type} (C : Cod α) (e base : Nat) (w : World) : Grow C e base w (.slice none 0 0) [] := ⟨by simp [Cod.all], .inl ⟨rfl, rfl⟩⟩
theorem Grow.seq {α : Type} {C : Cod α} {e base : Nat} {v : Value} {l : List α} (h : Grow C e base w v l) : Seq C w v l := by
  obtain ⟨hl, ⟨rfl, hn⟩ | ⟨g, cap, cur, rfl, hb, hg, hc, hm, hs, ht⟩⟩ := h
  · exact .inl ⟨rfl, List.eq_nil_of_length_eq_zero hn⟩
  · refine .inr ⟨g, 0, cap, rfl, hc, (Array.getElem?_eq_some_iff.1 hg).1, fun j u hu => ?_⟩
    rw [← ht] at hu
    have : cur[j]? = some u := by
      have := List.getElem?_take_of_lt (l := cur.toList) (show j < l.length * C.size by
        rcases Nat.lt_or_ge j (l.length * C.size) with h | h
        · exact h
        · rw [List.getElem?_eq_none (by simp; omega)] at hu; cases hu)
      rw [this] at hu
      simpa using hu
    simp [World.cell?, hg, this]
theorem Grow.block {α : Type} {C : Cod α} {e base : Nat} {v : Value} {l : List α} (h : Grow C e base w v l) {g : Nat} (hg : inBlock v g) : base ≤ g ∧ g < w.heap.size := by
  obtain ⟨o', n', c', hv'⟩ := hg
  obtain ⟨hl, ⟨rfl, hn⟩ | ⟨g', cap, cur, rfl, hb, hg, hc, hm, hs, ht⟩⟩ := h
  · cases hv'
  · cases hv'
    exact ⟨hb, (Array.getElem?_eq_some_iff.1 hg).1⟩
theorem Grow.mono {α : Type} {C : Cod α} {e base base' : Nat} {v : Value} {l : List α} (h : Grow C e base w v l) (hb : base' ≤ base) : Grow C e base' w v l := by
  obtain ⟨hl, h | ⟨g', cap, cur, rfl, hb', hg⟩⟩ := h
  · exact ⟨hl, .inl h⟩
  · exact ⟨hl, .inr ⟨g', cap, cur, rfl, Nat.le_trans hb hb', hg⟩⟩
theorem Grow.ext {α : Type} {C : Cod α} {e base : Nat} {w w' : World} {v : Value} {l : List α} (h : Grow C e base w v l) (x : Ext w w') : Grow C e base w' v l := by
  obtain ⟨hl, h | ⟨g', cap, cur, rfl, hb', hg, hr⟩⟩ := h
  · exact ⟨hl, .inl h⟩
  · exact ⟨hl, .inr ⟨g', cap, cur, rfl, hb', (x.block _ (Array.getElem?_eq_some_iff.1 hg).1).trans hg, hr⟩⟩
theorem Grow.upd {α : Type} {C : Cod α} {e base : Nat} {w w' : World} {v : Value} {l : List α} {g : Nat} (h : Grow C e base w v l) (x : Upd g w w') (hn : ¬ inBlock v g) : Grow C e base w' v l := by
  obtain ⟨hl, h | ⟨g', cap, cur, rfl, hb', hg, hr⟩⟩ := h
  · exact ⟨hl, .inl h⟩
  · exact ⟨hl, .inr ⟨g', cap, cur, rfl, hb', (x.block _ (Array.getElem?_eq_some_iff.1 hg).1 (fun he => hn (he ▸ ⟨0, _, cap, rfl⟩))).trans hg, hr⟩⟩

/-- What append asks of a kind of elements. -/
structure ElF (P : Program) (t e : Nat) {α : Type} (C : Cod α) (bytes : Nat) : Prop where
  und : P.underlying t = some (.slice e)
  info : ∃ i z, P.info? e = some i ∧ i.zero = some z ∧ i.size = C.size ∧ i.bytes = bytes ∧ z.cells.size = C.size

theorem ElF.run {t e bytes : Nat} {α : Type} {C : Cod α} (h : ElF P t e C bytes) (w : World) : (underlying t).run P w = .ok (.slice e) w := by simp [underlying, h.und]
theorem ElF.sizeOf {t e bytes : Nat} {α : Type} {C : Cod α} (h : ElF P t e C bytes) (w : World) : (sizeOf e).run P w = .ok C.size w := by
  obtain ⟨i, z, hi, hz, hs, _⟩ := h.info
  simp [Go.sizeOf, typeInfo, hi, hs]

/-- append(v, x...) -/
theorem RunP.append {α : Type} {C : Cod α} {t e bytes base ty : Nat} {v x : Value} {l m : List α} {k : Value → World → Prop} (hE : ElF P t e C bytes) (hg : Grow C e base w v l) (hx : Seq C w x m)
    (hn : l.length + m.length ≤ maxLen) (hb : (l.length + m.length) * bytes ≤ 140737488355328) (hbase : base ≤ w.heap.size)
    (hk : ∀ v' w', Grow C e base w' v' (l ++ m) → w.grownBy w' v.ownBlock → k v' w') : RunP P w (Builtin.append_ #[t, t] ty [v, x].toArray) k := by
  obtain ⟨i, z, hi, hz, hs, hby, hzs⟩ := hE.info
  rcases hx with ⟨rfl, rfl⟩ | ⟨b, o, cap, rfl, hc, hbl, hcells⟩
  · obtain ⟨hlen, hrest⟩ := hg
    refine ⟨v, w, ?_, hk v w (by rw [List.append_nil]; exact ⟨hlen, hrest⟩) ⟨rfl, rfl, rfl, Nat.le_refl _, fun _ _ _ => rfl⟩⟩
    have := run_append_owned_none (P := P) w base t ty e i C.size hE.und hi v l.length (C.all l) ⟨hlen, hrest⟩
    simpa using this
  · obtain ⟨v', w', hr, h1, h2, _⟩ := run_append_own (P := P) w base t ty e i z C.size bytes hE.und hi hz hs hby hzs C.pos v l.length (C.all l) hg ⟨b, o, none⟩ m.length cap (C.all m) (C.all_len m)
      (fun j u hu => by rw [Addr.add_lit]; exact hcells j u hu) (C.all_one m) hn hb hbase
    refine ⟨v', w', by simpa using hr, hk v' w' ?_ h2⟩
    rw [← C.all_append] at h1
    simpa [Grow] using h1

theorem Grow.grown_below {α : Type} {C : Cod α} {e base : Nat} {w w' : World} {v : Value} {l : List α} (h : Grow C e base w v l) (hg : w.grownBy w' v.ownBlock) (hB : base ≤ w.heap.size) : Below base w w' := by
  obtain ⟨hl, ⟨rfl, hn⟩ | ⟨g', cap, cur, rfl, hb', hr⟩⟩ := h
  · exact ⟨hg.os, hg.tape, hg.output, hg.size, fun k hk => hg.block k (by omega) (by simp [Value.ownBlock])⟩
  · exact ⟨hg.os, hg.tape, hg.output, hg.size, fun k hk => hg.block k (by omega) (by simp [Value.ownBlock]; omega)⟩
theorem Grow.grown_upd {α : Type} {C : Cod α} {e base : Nat} {w w' : World} {v : Value} {l : List α} (h : Grow C e base w v l) (hg : w.grownBy w' v.ownBlock) (g : Nat) (hv : ∀ b, inBlock v b → b = g) : Upd g w w' := by
  obtain ⟨hl, ⟨rfl, hn⟩ | ⟨g', cap, cur, rfl, hb', hr⟩⟩ := h
  · exact ⟨hg.os, hg.tape, hg.output, hg.size, fun k hk _ => hg.block k (by omega) (by simp [Value.ownBlock])⟩
  · have := hv g' ⟨0, _, cap, rfl⟩
    exact ⟨hg.os, hg.tape, hg.output, hg.size, fun k hk hne => hg.block k (by omega) (by simp [Value.ownBlock]; omega)⟩
end

/-! ### Strings, arrays -/
section
variable {P : Program} {w : World}
theorem GetP.idxStr {S : World → Prop} {t : Nat} {s : ByteArray} {kd : IntKind} {n : Int} {k : Value → Prop} (c : UInt8) (hu : ∀ w, (underlying t).run P w = .ok .string w) (h0 : 0 ≤ n)
    (hc : s[n.toNat]? = some c) (hk : k (.int .u8 c.toNat)) : GetP P S (Instr.index t (.string s) (.int kd n)) k :=
  ⟨.int .u8 c.toNat, fun w _ => by simp [Instr.index, asIntOf, hu, h0, hc], hk⟩
end

end Go.Proofs.YtgeemplpgfiidaaGreatDoor.Mv
/- Whole numbers as the machine reckons with them, as plain numbers. No program in sight. -/
namespace Go.Proofs.YtgeemplpgfiidaaGreatDoor.Mv
open Go
theorem toNat_ofInt64 (x : Nat) (h : x < 18446744073709551616) : (BitVec.ofInt 64 (x : Int)).toNat = x := by
  rw [BitVec.toNat_ofInt]
  have : ((x : Int) % ((2 : Nat) ^ 64 : Nat)) = x := by
    apply Int.emod_eq_of_lt <;> omega
  rw [this]; simp
theorem wrap64_nat (x : Nat) : IntKind.u64.wrap (x : Int) = ((x % 18446744073709551616 : Nat) : Int) := by
  rw [wrap_u64]; omega
theorem wrap32_nat (x : Nat) : IntKind.u32.wrap (x : Int) = ((x % 4294967296 : Nat) : Int) := by
  rw [wrap_u32]; omega
theorem wrap8_nat (x : Nat) : IntKind.u8.wrap (x : Int) = ((x % 256 : Nat) : Int) := by
  rw [wrap_u8]; omega
theorem pow_cast (n : Nat) : (2 : Int) ^ n = ((2 ^ n : Nat) : Int) := by simp
theorem shr64 (x n : Nat) (h : x < 18446744073709551616) : shrV .u64 (x : Int) (n : Int) = ((x / 2 ^ n : Nat) : Int) := by
  unfold shrV
  simp only [Int.toNat_natCast, IntKind.bits, pow_cast]
  rw [Int.fdiv_eq_ediv_of_nonneg _ (Int.natCast_nonneg _)]
  rcases Nat.le_total n 64 with hn | hn
  · rw [Nat.min_eq_left hn]; rfl
  · rw [Nat.min_eq_right hn]
    have h1 : x / 2 ^ 64 = 0 := Nat.div_eq_of_lt (by omega)
    have h2 : x / 2 ^ n = 0 := Nat.div_eq_of_lt (Nat.lt_of_lt_of_le (by omega) (Nat.pow_le_pow_right (by omega) hn))
    rw [h2]
    have : ((x : Int) / ((2 ^ 64 : Nat) : Int)) = ((x / 2 ^ 64 : Nat) : Int) := rfl
    rw [this, h1]
theorem shl64 (x n : Nat) : shlV .u64 (x : Int) (n : Int) = ((x * 2 ^ n % 18446744073709551616 : Nat) : Int) := by
  unfold shlV
  simp only [Int.toNat_natCast, IntKind.bits, pow_cast]
  rw [← Int.natCast_mul, wrap64_nat]
  rcases Nat.le_total n 64 with hn | hn
  · rw [Nat.min_eq_left hn]
  · rw [Nat.min_eq_right hn]
    congr 1
    have : 2 ^ n = 2 ^ 64 * 2 ^ (n - 64) := by rw [← Nat.pow_add]; congr 1; omega
    rw [this]
    rw [show x * 2 ^ 64 = 18446744073709551616 * x by omega, Nat.mul_mod_right]
    rw [show x * (2 ^ 64 * 2 ^ (n - 64)) = 18446744073709551616 * (x * 2 ^ (n - 64)) by
      rw [Nat.mul_left_comm]]
    rw [Nat.mul_mod_right]
theorem and64 (x y : Nat) (hx : x < 18446744073709551616) (hy : y < 18446744073709551616) : bitsV .and .u64 (x : Int) (y : Int) = ((x &&& y : Nat) : Int) := by
  show IntKind.u64.wrap ((BitVec.ofInt 64 (x : Int) &&& BitVec.ofInt 64 (y : Int) : BitVec 64).toNat : Int) = _
  rw [BitVec.toNat_and, toNat_ofInt64 x hx, toNat_ofInt64 y hy, wrap64_nat]
  congr 1
  exact Nat.mod_eq_of_lt (Nat.lt_of_le_of_lt Nat.and_le_left hx)
theorem or64 (x y : Nat) (hx : x < 18446744073709551616) (hy : y < 18446744073709551616) : bitsV .or .u64 (x : Int) (y : Int) = ((x ||| y : Nat) : Int) := by
  show IntKind.u64.wrap ((BitVec.ofInt 64 (x : Int) ||| BitVec.ofInt 64 (y : Int) : BitVec 64).toNat : Int) = _
  rw [BitVec.toNat_or, toNat_ofInt64 x hx, toNat_ofInt64 y hy, wrap64_nat]
  congr 1
  exact Nat.mod_eq_of_lt (Nat.or_lt_two_pow (n := 64) hx hy)
theorem xor64 (x y : Nat) (hx : x < 18446744073709551616) (hy : y < 18446744073709551616) : bitsV .xor .u64 (x : Int) (y : Int) = ((x ^^^ y : Nat) : Int) := by
  show IntKind.u64.wrap ((BitVec.ofInt 64 (x : Int) ^^^ BitVec.ofInt 64 (y : Int) : BitVec 64).toNat : Int) = _
  rw [BitVec.toNat_xor, toNat_ofInt64 x hx, toNat_ofInt64 y hy, wrap64_nat]
  congr 1
  exact Nat.mod_eq_of_lt (Nat.xor_lt_two_pow (n := 64) hx hy)
theorem wrapi_nat (x : Nat) (h : x < 9223372036854775808) : IntKind.i64.wrap (x : Int) = (x : Int) := wrap_fit (by simp only [kmin]; omega) (by simp only [kmax]; omega)
theorem andi64 (x y : Nat) (hx : x < 9223372036854775808) (hy : y < 18446744073709551616) : bitsV .and .i64 (x : Int) (y : Int) = ((x &&& y : Nat) : Int) := by
  show IntKind.i64.wrap ((BitVec.ofInt 64 (x : Int) &&& BitVec.ofInt 64 (y : Int) : BitVec 64).toNat : Int) = _
  rw [BitVec.toNat_and, toNat_ofInt64 x (by omega), toNat_ofInt64 y hy, wrapi_nat]
  exact Nat.lt_of_le_of_lt Nat.and_le_left hx
theorem add64 (x y : Nat) (h : x + y < 18446744073709551616) : IntKind.u64.wrap ((x : Int) + (y : Int)) = ((x + y : Nat) : Int) := by
  rw [wrap_u64]; omega
theorem sub64 (x y : Nat) (h : y ≤ x) (hx : x < 18446744073709551616) : IntKind.u64.wrap ((x : Int) - (y : Int)) = ((x - y : Nat) : Int) := by
  rw [wrap_u64]; omega
end Go.Proofs.YtgeemplpgfiidaaGreatDoor.Mv
namespace Go.Proofs.YtgeemplpgfiidaaGreatDoor.Mv
open Go
theorem ty24 : TI.ok Tryz.prog 24 ⟨.arr 32 5, 32⟩ := ⟨⟨Tryz.t24, by kernel_rfl, by kernel_rfl, _, Tryz.underlying24⟩, Tryz.underlying24⟩
theorem ty29 : TI.ok Tryz.prog 29 ⟨.struct [(0, 22), (1, 24)], 33⟩ := ⟨⟨Tryz.t29, by kernel_rfl, by kernel_rfl, _, Tryz.underlying29⟩, ⟨_, Tryz.underlying29, rfl⟩⟩
theorem ty22 : TI.ok Tryz.prog 22 ⟨.int .u64, 1⟩ := ⟨⟨Tryz.t22, by kernel_rfl, by kernel_rfl, _, Tryz.underlying22⟩, Tryz.underlying22⟩
theorem ty45 : TI.ok Tryz.prog 45 ⟨.slice 22, 1⟩ := ⟨⟨Tryz.t45, by kernel_rfl, by kernel_rfl, _, Tryz.underlying45⟩, Tryz.underlying45⟩
theorem ty90 : TI.ok Tryz.prog 90 ⟨.struct [(0, 29), (33, 29)], 66⟩ := ⟨⟨Tryz.t90, by kernel_rfl, by kernel_rfl, _, Tryz.underlying90⟩, ⟨_, Tryz.underlying90, rfl⟩⟩
theorem ty204 : TI.ok Tryz.prog 204 ⟨.struct [(0, 22)], 1⟩ := ⟨⟨Tryz.t204, by kernel_rfl, by kernel_rfl, _, Tryz.underlying204⟩, ⟨_, Tryz.underlying204, rfl⟩⟩
theorem ty50 : TI.ok Tryz.prog 50 ⟨.slice 29, 1⟩ := ⟨⟨Tryz.t50, by kernel_rfl, by kernel_rfl, _, Tryz.underlying50⟩, Tryz.underlying50⟩
theorem ty93 : TI.ok Tryz.prog 93 ⟨.slice 90, 1⟩ := ⟨⟨Tryz.t93, by kernel_rfl, by kernel_rfl, _, Tryz.underlying93⟩, Tryz.underlying93⟩
theorem ty201 : TI.ok Tryz.prog 201 ⟨.slice 204, 1⟩ := ⟨⟨Tryz.t201, by kernel_rfl, by kernel_rfl, _, Tryz.underlying201⟩, Tryz.underlying201⟩
theorem ty159 : TI.ok Tryz.prog 159 ⟨.struct [(0, 5), (1, 22)], 2⟩ := ⟨⟨Tryz.t159, by kernel_rfl, by kernel_rfl, _, Tryz.underlying159⟩, ⟨_, Tryz.underlying159, rfl⟩⟩
theorem ty3 : TI.ok Tryz.prog 3 ⟨.int .i64, 1⟩ := ⟨⟨Tryz.t3, by kernel_rfl, by kernel_rfl, _, Tryz.underlying3⟩, Tryz.underlying3⟩
theorem ty55 : TI.ok Tryz.prog 55 ⟨.struct [(0, 22), (1, 22), (2, 44)], 3⟩ := ⟨⟨Tryz.t55, by kernel_rfl, by kernel_rfl, _, Tryz.underlying55⟩, ⟨_, Tryz.underlying55, rfl⟩⟩
theorem ty5 : TI.ok Tryz.prog 5 ⟨.int .u8, 1⟩ := ⟨⟨Tryz.t5, by kernel_rfl, by kernel_rfl, _, Tryz.underlying5⟩, Tryz.underlying5⟩
theorem ty25 : TI.ok Tryz.prog 25 ⟨.slice 5, 1⟩ := ⟨⟨Tryz.t25, by kernel_rfl, by kernel_rfl, _, Tryz.underlying25⟩, Tryz.underlying25⟩
theorem ty112 : TI.ok Tryz.prog 112 ⟨.struct [(0, 108), (1, 3), (2, 22)], 3⟩ := ⟨⟨Tryz.t112, by kernel_rfl, by kernel_rfl, _, Tryz.underlying112⟩, ⟨_, Tryz.underlying112, rfl⟩⟩
theorem ty35 : TI.ok Tryz.prog 35 ⟨.struct [(0, 25), (1, 25)], 2⟩ := ⟨⟨Tryz.t35, by kernel_rfl, by kernel_rfl, _, Tryz.underlying35⟩, ⟨_, Tryz.underlying35, rfl⟩⟩
theorem ty182 : TI.ok Tryz.prog 182 ⟨.struct [(0, 3), (1, 22), (2, 22), (3, 180), (4, 71)], 5⟩ := ⟨⟨Tryz.t182, by kernel_rfl, by kernel_rfl, _, Tryz.underlying182⟩, ⟨_, Tryz.underlying182, rfl⟩⟩
theorem ty129 : TI.ok Tryz.prog 129 ⟨.struct [(0, 46), (1, 3), (2, 71)], 3⟩ := ⟨⟨Tryz.t129, by kernel_rfl, by kernel_rfl, _, Tryz.underlying129⟩, ⟨_, Tryz.underlying129, rfl⟩⟩
theorem ty151 : TI.ok Tryz.prog 151 ⟨.struct [(0, 25), (1, 30)], 2⟩ := ⟨⟨Tryz.t151, by kernel_rfl, by kernel_rfl, _, Tryz.underlying151⟩, ⟨_, Tryz.underlying151, rfl⟩⟩
theorem ty270 : TI.ok Tryz.prog 270 ⟨.int .u32, 1⟩ := ⟨⟨Tryz.t270, by kernel_rfl, by kernel_rfl, _, Tryz.underlying270⟩, Tryz.underlying270⟩
theorem ty108 : TI.ok Tryz.prog 108 ⟨.ptr 182, 1⟩ := ⟨⟨Tryz.t108, by kernel_rfl, by kernel_rfl, _, Tryz.underlying108⟩, Tryz.underlying108⟩
theorem ty291 : TI.ok Tryz.prog 291 ⟨.int .u64, 1⟩ := ⟨⟨Tryz.t291, by kernel_rfl, by kernel_rfl, _, Tryz.underlying291⟩, Tryz.underlying291⟩
theorem ty276 : TI.ok Tryz.prog 276 ⟨.arr 8 270, 8⟩ := ⟨⟨Tryz.t276, by kernel_rfl, by kernel_rfl, _, Tryz.underlying276⟩, Tryz.underlying276⟩
theorem ty44 : TI.ok Tryz.prog 44 ⟨.slice 24, 1⟩ := ⟨⟨Tryz.t44, by kernel_rfl, by kernel_rfl, _, Tryz.underlying44⟩, Tryz.underlying44⟩
theorem ty71 : TI.ok Tryz.prog 71 ⟨.map 22 3, 1⟩ := ⟨⟨Tryz.t71, by kernel_rfl, by kernel_rfl, _, Tryz.underlying71⟩, Tryz.underlying71⟩
theorem ty239 : TI.ok Tryz.prog 239 ⟨.struct [(0, 3), (1, 24), (33, 237), (97, 22)], 98⟩ := ⟨⟨Tryz.t239, by kernel_rfl, by kernel_rfl, _, Tryz.underlying239⟩, ⟨_, Tryz.underlying239, rfl⟩⟩
theorem ty82 : TI.ok Tryz.prog 82 ⟨.struct [(0, 3), (1, 79), (2, 80)], 3⟩ := ⟨⟨Tryz.t82, by kernel_rfl, by kernel_rfl, _, Tryz.underlying82⟩, ⟨_, Tryz.underlying82, rfl⟩⟩
theorem ty212 : TI.ok Tryz.prog 212 ⟨.struct [(0, 210), (1, 3)], 2⟩ := ⟨⟨Tryz.t212, by kernel_rfl, by kernel_rfl, _, Tryz.underlying212⟩, ⟨_, Tryz.underlying212, rfl⟩⟩
theorem ty68 : TI.ok Tryz.prog 68 ⟨.struct [(0, 3), (1, 22), (2, 24), (34, 25), (35, 44), (36, 45)], 37⟩ := ⟨⟨Tryz.t68, by kernel_rfl, by kernel_rfl, _, Tryz.underlying68⟩, ⟨_, Tryz.underlying68, rfl⟩⟩
theorem ty187 : TI.ok Tryz.prog 187 ⟨.struct [(0, 24), (32, 4)], 33⟩ := ⟨⟨Tryz.t187, by kernel_rfl, by kernel_rfl, _, Tryz.underlying187⟩, ⟨_, Tryz.underlying187, rfl⟩⟩
theorem ty188 : TI.ok Tryz.prog 188 ⟨.int .u64, 1⟩ := ⟨⟨Tryz.t188, by kernel_rfl, by kernel_rfl, _, Tryz.underlying188⟩, Tryz.underlying188⟩
theorem ty210 : TI.ok Tryz.prog 210 ⟨.slice 187, 1⟩ := ⟨⟨Tryz.t210, by kernel_rfl, by kernel_rfl, _, Tryz.underlying210⟩, Tryz.underlying210⟩
theorem ty273 : TI.ok Tryz.prog 273 ⟨.arr 64 270, 64⟩ := ⟨⟨Tryz.t273, by kernel_rfl, by kernel_rfl, _, Tryz.underlying273⟩, Tryz.underlying273⟩
theorem ty146 : TI.ok Tryz.prog 146 ⟨.struct [(0, 22), (1, 22), (2, 44)], 3⟩ := ⟨⟨Tryz.t146, by kernel_rfl, by kernel_rfl, _, Tryz.underlying146⟩, ⟨_, Tryz.underlying146, rfl⟩⟩
theorem ty155 : TI.ok Tryz.prog 155 ⟨.slice 159, 1⟩ := ⟨⟨Tryz.t155, by kernel_rfl, by kernel_rfl, _, Tryz.underlying155⟩, Tryz.underlying155⟩
theorem ty84 : TI.ok Tryz.prog 84 ⟨.struct [], 0⟩ := ⟨⟨Tryz.t84, by kernel_rfl, by kernel_rfl, _, Tryz.underlying84⟩, ⟨_, Tryz.underlying84, rfl⟩⟩
theorem ty234 : TI.ok Tryz.prog 234 ⟨.struct [(0, 3), (1, 231), (2, 232)], 3⟩ := ⟨⟨Tryz.t234, by kernel_rfl, by kernel_rfl, _, Tryz.underlying234⟩, ⟨_, Tryz.underlying234, rfl⟩⟩
theorem ty46 : TI.ok Tryz.prog 46 ⟨.ptr 112, 1⟩ := ⟨⟨Tryz.t46, by kernel_rfl, by kernel_rfl, _, Tryz.underlying46⟩, Tryz.underlying46⟩
theorem ty180 : TI.ok Tryz.prog 180 ⟨.map 204 208, 1⟩ := ⟨⟨Tryz.t180, by kernel_rfl, by kernel_rfl, _, Tryz.underlying180⟩, Tryz.underlying180⟩
theorem ty30 : TI.ok Tryz.prog 30 ⟨.int .i64, 1⟩ := ⟨⟨Tryz.t30, by kernel_rfl, by kernel_rfl, _, Tryz.underlying30⟩, Tryz.underlying30⟩
theorem ty80 : TI.ok Tryz.prog 80 ⟨.map 90 25, 1⟩ := ⟨⟨Tryz.t80, by kernel_rfl, by kernel_rfl, _, Tryz.underlying80⟩, Tryz.underlying80⟩
theorem ty225 : TI.ok Tryz.prog 225 ⟨.slice 159, 1⟩ := ⟨⟨Tryz.t225, by kernel_rfl, by kernel_rfl, _, Tryz.underlying225⟩, Tryz.underlying225⟩
theorem ty62 : TI.ok Tryz.prog 62 ⟨.slice 68, 1⟩ := ⟨⟨Tryz.t62, by kernel_rfl, by kernel_rfl, _, Tryz.underlying62⟩, Tryz.underlying62⟩
theorem ty237 : TI.ok Tryz.prog 237 ⟨.arr 64 5, 64⟩ := ⟨⟨Tryz.t237, by kernel_rfl, by kernel_rfl, _, Tryz.underlying237⟩, Tryz.underlying237⟩
theorem ty79 : TI.ok Tryz.prog 79 ⟨.map 29 84, 1⟩ := ⟨⟨Tryz.t79, by kernel_rfl, by kernel_rfl, _, Tryz.underlying79⟩, Tryz.underlying79⟩
theorem ty232 : TI.ok Tryz.prog 232 ⟨.ptr 35, 1⟩ := ⟨⟨Tryz.t232, by kernel_rfl, by kernel_rfl, _, Tryz.underlying232⟩, Tryz.underlying232⟩
theorem ty176 : TI.ok Tryz.prog 176 ⟨.slice 25, 1⟩ := ⟨⟨Tryz.t176, by kernel_rfl, by kernel_rfl, _, Tryz.underlying176⟩, Tryz.underlying176⟩
theorem ty103 : TI.ok Tryz.prog 103 ⟨.struct [(0, 22), (1, 24), (33, 24)], 65⟩ := ⟨⟨Tryz.t103, by kernel_rfl, by kernel_rfl, _, Tryz.underlying103⟩, ⟨_, Tryz.underlying103, rfl⟩⟩
theorem ty4 : TI.ok Tryz.prog 4 ⟨.bool, 1⟩ := ⟨⟨Tryz.t4, by kernel_rfl, by kernel_rfl, _, Tryz.underlying4⟩, Tryz.underlying4⟩
theorem ty9 : TI.ok Tryz.prog 9 ⟨.str, 1⟩ := ⟨⟨Tryz.t9, by kernel_rfl, by kernel_rfl, _, Tryz.underlying9⟩, Tryz.underlying9⟩
theorem ty197 : TI.ok Tryz.prog 197 ⟨.map 22 84, 1⟩ := ⟨⟨Tryz.t197, by kernel_rfl, by kernel_rfl, _, Tryz.underlying197⟩, Tryz.underlying197⟩
theorem ty222 : TI.ok Tryz.prog 222 ⟨.slice 155, 1⟩ := ⟨⟨Tryz.t222, by kernel_rfl, by kernel_rfl, _, Tryz.underlying222⟩, Tryz.underlying222⟩
theorem ty231 : TI.ok Tryz.prog 231 ⟨.map 24 25, 1⟩ := ⟨⟨Tryz.t231, by kernel_rfl, by kernel_rfl, _, Tryz.underlying231⟩, Tryz.underlying231⟩
theorem ty38 : TI.ok Tryz.prog 38 ⟨.slice 103, 1⟩ := ⟨⟨Tryz.t38, by kernel_rfl, by kernel_rfl, _, Tryz.underlying38⟩, Tryz.underlying38⟩
theorem ty169 : TI.ok Tryz.prog 169 ⟨.slice 3, 1⟩ := ⟨⟨Tryz.t169, by kernel_rfl, by kernel_rfl, _, Tryz.underlying169⟩, Tryz.underlying169⟩
def Ty : Tys := [(24, ⟨.arr 32 5, 32⟩), (29, ⟨.struct [(0, 22), (1, 24)], 33⟩), (22, ⟨.int .u64, 1⟩), (45, ⟨.slice 22, 1⟩), (90, ⟨.struct [(0, 29), (33, 29)], 66⟩), (204, ⟨.struct [(0, 22)], 1⟩), (50, ⟨.slice 29, 1⟩), (93, ⟨.slice 90, 1⟩), (201, ⟨.slice 204, 1⟩), (159, ⟨.struct [(0, 5), (1, 22)], 2⟩), (3, ⟨.int .i64, 1⟩), (55, ⟨.struct [(0, 22), (1, 22), (2, 44)], 3⟩), (5, ⟨.int .u8, 1⟩), (25, ⟨.slice 5, 1⟩), (112, ⟨.struct [(0, 108), (1, 3), (2, 22)], 3⟩), (35, ⟨.struct [(0, 25), (1, 25)], 2⟩), (182, ⟨.struct [(0, 3), (1, 22), (2, 22), (3, 180), (4, 71)], 5⟩), (129, ⟨.struct [(0, 46), (1, 3), (2, 71)], 3⟩), (151, ⟨.struct [(0, 25), (1, 30)], 2⟩), (270, ⟨.int .u32, 1⟩), (108, ⟨.ptr 182, 1⟩), (291, ⟨.int .u64, 1⟩), (276, ⟨.arr 8 270, 8⟩), (44, ⟨.slice 24, 1⟩), (71, ⟨.map 22 3, 1⟩), (239, ⟨.struct [(0, 3), (1, 24), (33, 237), (97, 22)], 98⟩), (82, ⟨.struct [(0, 3), (1, 79), (2, 80)], 3⟩), (212, ⟨.struct [(0, 210), (1, 3)], 2⟩), (68, ⟨.struct [(0, 3), (1, 22), (2, 24), (34, 25), (35, 44), (36, 45)], 37⟩), (187, ⟨.struct [(0, 24), (32, 4)], 33⟩), (188, ⟨.int .u64, 1⟩), (210, ⟨.slice 187, 1⟩), (273, ⟨.arr 64 270, 64⟩), (146, ⟨.struct [(0, 22), (1, 22), (2, 44)], 3⟩), (155, ⟨.slice 159, 1⟩), (84, ⟨.struct [], 0⟩), (234, ⟨.struct [(0, 3), (1, 231), (2, 232)], 3⟩), (46, ⟨.ptr 112, 1⟩), (180, ⟨.map 204 208, 1⟩), (30, ⟨.int .i64, 1⟩), (80, ⟨.map 90 25, 1⟩), (225, ⟨.slice 159, 1⟩), (62, ⟨.slice 68, 1⟩), (237, ⟨.arr 64 5, 64⟩), (79, ⟨.map 29 84, 1⟩), (232, ⟨.ptr 35, 1⟩), (176, ⟨.slice 25, 1⟩), (103, ⟨.struct [(0, 22), (1, 24), (33, 24)], 65⟩), (4, ⟨.bool, 1⟩), (9, ⟨.str, 1⟩), (197, ⟨.map 22 84, 1⟩), (222, ⟨.slice 155, 1⟩), (231, ⟨.map 24 25, 1⟩), (38, ⟨.slice 103, 1⟩), (169, ⟨.slice 3, 1⟩)]
theorem tyOk : TyOk Tryz.prog Ty := ⟨ty24, ty29, ty22, ty45, ty90, ty204, ty50, ty93, ty201, ty159, ty3, ty55, ty5, ty25, ty112, ty35, ty182, ty129, ty151, ty270, ty108, ty291, ty276, ty44, ty71, ty239, ty82, ty212, ty68, ty187, ty188, ty210, ty273, ty146, ty155, ty84, ty234, ty46, ty180, ty30, ty80, ty225, ty62, ty237, ty79, ty232, ty176, ty103, ty4, ty9, ty197, ty222, ty231, ty38, ty169, trivial⟩
end Go.Proofs.YtgeemplpgfiidaaGreatDoor.Mv
/- Bits of plain numbers: what math/bits reckons. No program in sight. -/
namespace Go.Proofs.YtgeemplpgfiidaaGreatDoor.Mv

/-- How many bits a number needs. -/
def len (x : Nat) : Nat := if x = 0 then 0 else Nat.log2 x + 1

theorem len_lt {x n : Nat} : len x ≤ n ↔ x < 2 ^ n := by
  unfold len
  split
  · subst_vars; simp [Nat.two_pow_pos]
  · rename_i h
    rw [← Nat.log2_lt h]; omega

theorem len_shift {x n : Nat} (h : 2 ^ n ≤ x) : len x = len (x / 2 ^ n) + n := by
  apply Nat.le_antisymm
  · rw [len_lt, Nat.pow_add]
    have := (len_lt (x := x / 2 ^ n) (n := len (x / 2 ^ n))).1 (Nat.le_refl _)
    rw [Nat.div_lt_iff_lt_mul (Nat.two_pow_pos n)] at this
    exact this
  · have hn : n ≤ len x := by
      rcases Nat.lt_or_ge (len x) n with h' | h'
      · have := len_lt.1 (Nat.le_of_lt_succ (Nat.lt_succ_of_lt h'))
        omega
      · exact h'
    have : len (x / 2 ^ n) ≤ len x - n := by
      rw [len_lt, Nat.div_lt_iff_lt_mul (Nat.two_pow_pos n), ← Nat.pow_add, Nat.sub_add_cancel hn]
      exact len_lt.1 (Nat.le_refl _)
    omega

/-- How many bits are set. -/
def ones (x : Nat) : Nat := if h : x = 0 then 0 else x % 2 + ones (x / 2)
termination_by x
decreasing_by omega

/-- How many zeros stand below the lowest set bit; 64 of 0. -/
def lowAux : Nat → Nat → Nat
  | 0, _ => 0
  | n + 1, x => if x % 2 = 1 then 0 else lowAux n (x / 2) + 1
def low (x : Nat) : Nat := lowAux 64 x

theorem lowAux_le : ∀ n x, lowAux n x ≤ n
  | 0, _ => Nat.le_refl _
  | n + 1, x => by
    simp only [lowAux]
    split
    · omega
    · have := lowAux_le n (x / 2); omega
theorem low_le (x : Nat) : low x ≤ 64 := lowAux_le 64 x

theorem lowAux_split : ∀ n x, 0 < x → x < 2 ^ n → ∃ q, x = 2 ^ lowAux n x * (2 * q + 1)
  | 0, x, h0, h1 => by simp at h1; omega
  | n + 1, x, h0, h1 => by
    simp only [lowAux]
    split
    · rename_i h; exact ⟨x / 2, by simp; omega⟩
    · rename_i h
      obtain ⟨q, hq⟩ := lowAux_split n (x / 2) (by omega) (by rw [Nat.pow_succ] at h1; omega)
      refine ⟨q, ?_⟩
      rw [Nat.pow_succ, Nat.mul_right_comm, ← hq]
      omega
theorem low_split {x : Nat} (h0 : 0 < x) (h1 : x < 18446744073709551616) : ∃ q, x = 2 ^ low x * (2 * q + 1) := lowAux_split 64 x h0 h1
theorem low_lt {x : Nat} (h0 : 0 < x) (h1 : x < 18446744073709551616) : low x < 64 := by
  obtain ⟨q, hq⟩ := low_split h0 h1
  rcases Nat.lt_or_ge (low x) 64 with h | h
  · exact h
  · have : 2 ^ 64 ≤ 2 ^ low x := Nat.pow_le_pow_right (by omega) h
    have : 2 ^ low x * 1 ≤ 2 ^ low x * (2 * q + 1) := Nat.mul_le_mul_left _ (by omega)
    omega

theorem and_compl {q n : Nat} (h : q < 2 ^ n) : q &&& (2 ^ n - (q + 1)) = 0 := by
  apply Nat.eq_of_testBit_eq
  intro i
  rw [Nat.testBit_and, Nat.testBit_two_pow_sub_succ h]
  cases q.testBit i <;> simp

theorem odd_and_odd (a b : Nat) : (2 * a + 1) &&& (2 * b + 1) = 2 * (a &&& b) + 1 := by
  apply Nat.eq_of_testBit_eq
  intro i
  cases i with
  | zero => simp
  | succ i =>
    rw [Nat.testBit_and, Nat.testBit_succ, Nat.testBit_succ, Nat.testBit_succ]
    rw [show (2 * a + 1) / 2 = a by omega, show (2 * b + 1) / 2 = b by omega, show (2 * (a &&& b) + 1) / 2 = a &&& b by omega, Nat.testBit_and]

theorem low_and {x : Nat} (h0 : 0 < x) (h1 : x < 18446744073709551616) : x &&& (18446744073709551616 - x) = 2 ^ low x := by
  obtain ⟨q, hq⟩ := low_split h0 h1
  have hk := low_lt h0 h1
  generalize low x = k at hq hk
  have hp : 18446744073709551616 = 2 ^ k * (2 * 2 ^ (63 - k)) := by
    rw [← Nat.pow_succ', ← Nat.pow_add]
    rw [show k + (63 - k).succ = 64 by omega]
  have hlt : q < 2 ^ (63 - k) := by
    have : 2 ^ k * (2 * q + 1) < 2 ^ k * (2 * 2 ^ (63 - k)) := by rw [← hp, ← hq]; exact h1
    have := Nat.lt_of_mul_lt_mul_left this
    omega
  have hsub : 18446744073709551616 - x = 2 ^ k * (2 * (2 ^ (63 - k) - (q + 1)) + 1) := by
    rw [hp, hq, ← Nat.mul_sub]
    congr 1
    omega
  rw [hsub]
  conv => lhs; lhs; rw [hq]
  rw [Nat.mul_comm (2 ^ k) (2 * q + 1), Nat.mul_comm (2 ^ k) (2 * (2 ^ (63 - k) - (q + 1)) + 1)]
  rw [← Nat.shiftLeft_eq, ← Nat.shiftLeft_eq, ← Nat.shiftLeft_and_distrib, odd_and_odd, and_compl hlt]
  simp [Nat.shiftLeft_eq]

/-! ### The count of set bits, in eight bytes at once -/
theorem ones_zero : ones 0 = 0 := by unfold ones; simp
theorem ones_step (x : Nat) : ones x = x % 2 + ones (x / 2) := by
  by_cases h : x = 0
  · subst h; simp [ones_zero]
  · conv => lhs; unfold ones
    rw [dif_neg h]
theorem ones_add : ∀ n b r, b < 2 ^ n → ones (b + 2 ^ n * r) = ones b + ones r
  | 0, b, r, h => by
    have : b = 0 := by simp at h; exact h
    subst this
    simp [ones_zero]
  | n + 1, b, r, h => by
    rw [ones_step (b + 2 ^ (n + 1) * r), ones_step b]
    have h1 : (b + 2 ^ (n + 1) * r) % 2 = b % 2 := by rw [Nat.pow_succ, Nat.mul_right_comm, Nat.add_mul_mod_self_right]
    have h2 : (b + 2 ^ (n + 1) * r) / 2 = b / 2 + 2 ^ n * r := by rw [Nat.pow_succ, Nat.mul_right_comm, Nat.add_mul_div_right _ _ (by omega)]
    rw [h1, h2, ones_add n (b / 2) r (by rw [Nat.pow_succ] at h; omega)]
    omega

def bmap (g : Nat → Nat) : Nat → Nat → Nat
  | 0, _ => 0
  | k + 1, x => g (x % 256) + 256 * bmap g k (x / 256)
def rep (m : Nat) : Nat → Nat
  | 0 => 0
  | k + 1 => m + 256 * rep m k

theorem and_split (x y : Nat) : x &&& y = ((x % 256) &&& (y % 256)) + 256 * ((x / 256) &&& (y / 256)) := by
  have h1 := Nat.and_mod_two_pow (a := x) (b := y) (n := 8)
  have h2 := Nat.and_div_two_pow (a := x) (b := y) (n := 8)
  have h3 := Nat.mod_add_div (x &&& y) 256
  simp only [Nat.reducePow] at h1 h2
  rw [← h1, ← h2]
  exact h3.symm

theorem and_rep {m : Nat} (hm : m < 256) : ∀ k x, x &&& rep m k = bmap (fun b => b &&& m) k x
  | 0, x => by simp [rep, bmap]
  | k + 1, x => by
    rw [and_split]
    simp only [rep, bmap]
    rw [show (m + 256 * rep m k) % 256 = m by omega, show (m + 256 * rep m k) / 256 = rep m k by omega, and_rep hm k]

theorem shr_and_rep {m s : Nat} (hm : m < 256) (hs : s ≤ 8) (hd : ∀ b, b < 256 → ∀ c, c < 2 ^ s → (b / 2 ^ s + c * 2 ^ (8 - s)) &&& m = (b / 2 ^ s) &&& m) : ∀ k x, (x / 2 ^ s) &&& rep m k = bmap (fun b => (b / 2 ^ s) &&& m) k x
  | 0, x => by simp [rep, bmap]
  | k + 1, x => by
    rw [and_split]
    simp only [rep, bmap]
    rw [show (m + 256 * rep m k) % 256 = m by omega, show (m + 256 * rep m k) / 256 = rep m k by omega]
    have hp : (256 : Nat) = 2 ^ s * 2 ^ (8 - s) := by rw [← Nat.pow_add, show s + (8 - s) = 8 by omega]
    have hpos := Nat.two_pow_pos s
    have e1 : x / 2 ^ s / 256 = x / 256 / 2 ^ s := by rw [Nat.div_div_eq_div_mul, Nat.div_div_eq_div_mul, Nat.mul_comm]
    have e2 : x / 2 ^ s % 256 = (x % 256) / 2 ^ s + (x / 256 % 2 ^ s) * 2 ^ (8 - s) := by
      have hx : x = x % 256 + 256 * (x / 256) := (Nat.mod_add_div x 256).symm
      have ha : x / 2 ^ s = (x % 256) / 2 ^ s + 2 ^ (8 - s) * (x / 256) := by
        conv => lhs; rw [hx, hp, Nat.mul_assoc, Nat.add_mul_div_left _ _ hpos]
        rw [← hp]
      rw [ha]
      have hlt : (x % 256) / 2 ^ s < 2 ^ (8 - s) := by
        rw [Nat.div_lt_iff_lt_mul hpos, Nat.mul_comm, ← hp]
        omega
      have hy : x / 256 = x / 256 % 2 ^ s + 2 ^ s * (x / 256 / 2 ^ s) := (Nat.mod_add_div _ _).symm
      have hc : x / 256 % 2 ^ s < 2 ^ s := Nat.mod_lt _ hpos
      generalize (x % 256) / 2 ^ s = u at *
      generalize x / 256 % 2 ^ s = c at *
      generalize x / 256 / 2 ^ s = d at *
      rw [hy, Nat.mul_add, ← Nat.mul_assoc, Nat.mul_comm (2 ^ (8 - s)) (2 ^ s), ← hp, ← Nat.add_assoc, Nat.add_mul_mod_self_left]
      rw [Nat.mod_eq_of_lt]
      · rw [Nat.mul_comm]
      · have h3 : 2 ^ (8 - s) * c + 2 ^ (8 - s) ≤ 2 ^ (8 - s) * 2 ^ s := by rw [← Nat.mul_succ]; exact Nat.mul_le_mul_left _ hc
        rw [Nat.mul_comm _ (2 ^ s), ← hp] at h3
        omega
    rw [e1, e2, hd _ (Nat.mod_lt _ (by omega)) _ (Nat.mod_lt _ hpos), shr_and_rep hm hs hd k]

theorem bmap_add (g h : Nat → Nat) : ∀ k x, bmap g k x + bmap h k x = bmap (fun b => g b + h b) k x
  | 0, x => rfl
  | k + 1, x => by simp only [bmap]; rw [← bmap_add g h k]; omega
theorem bmap_bmap {g h : Nat → Nat} (hg : ∀ b, b < 256 → g b < 256) : ∀ k x, bmap h k (bmap g k x) = bmap (fun b => h (g b)) k x
  | 0, x => rfl
  | k + 1, x => by
    simp only [bmap]
    have := hg (x % 256) (Nat.mod_lt _ (by omega))
    rw [show (g (x % 256) + 256 * bmap g k (x / 256)) % 256 = g (x % 256) by omega, show (g (x % 256) + 256 * bmap g k (x / 256)) / 256 = bmap g k (x / 256) by omega, bmap_bmap hg k]
theorem bmap_congr {g h : Nat → Nat} (hg : ∀ b, b < 256 → g b = h b) : ∀ k x, bmap g k x = bmap h k x
  | 0, x => rfl
  | k + 1, x => by simp only [bmap]; rw [hg _ (Nat.mod_lt _ (by omega)), bmap_congr hg k]

/-- Bytes of two halves of at most four each. -/
def nib (y : Nat) : Nat → Prop
  | 0 => y = 0
  | k + 1 => y % 16 ≤ 4 ∧ y / 16 % 16 ≤ 4 ∧ nib (y / 256) k
theorem nib_low : ∀ {k y}, nib y k → y % 16 ≤ 4
  | 0, y, h => by unfold nib at h; subst h; omega
  | k + 1, y, h => h.1
theorem fold_nib : ∀ k y, nib y k → (y / 16 + y) &&& rep 15 k = bmap (fun b => b / 16 + b % 16) k y
  | 0, y, h => by simp [rep, bmap]
  | k + 1, y, h => by
    obtain ⟨h0, h1, h2⟩ := h
    rw [and_split]
    simp only [rep, bmap]
    rw [show (15 + 256 * rep 15 k) % 256 = 15 by omega, show (15 + 256 * rep 15 k) / 256 = rep 15 k by omega]
    have h3 := nib_low h2
    have hy : y = y % 16 + 16 * (y / 16 % 16) + 256 * (y / 256) := by omega
    have hy16 : y / 16 = y / 16 % 16 + 16 * (y / 256) := by omega
    have e1 : (y / 16 + y) / 256 = y / 256 / 16 + y / 256 := by
      rw [hy16]
      generalize y / 16 % 16 = hi at *
      generalize y / 256 = r at *
      generalize y % 16 = lo at *
      subst hy
      omega
    have e2 : (y / 16 + y) % 256 &&& 15 = (y % 256) / 16 + (y % 256) % 16 := by
      have : ∀ a, a &&& 15 = a % 16 := fun a => Nat.and_two_pow_sub_one_eq_mod a 4
      rw [this, hy16]
      have e3 : y % 256 / 16 = y / 16 % 16 := by omega
      have e4 : y % 256 % 16 = y % 16 := by omega
      rw [e3, e4]
      generalize y / 16 % 16 = hi at *
      generalize y / 256 = r at *
      generalize y % 16 = lo at *
      subst hy
      omega
    rw [e1, e2, fold_nib k _ h2]

def pb (b : Nat) : Nat := ((b / 2 ^ 1) &&& 0x55) + (b &&& 0x55)
def qb (b : Nat) : Nat := ((b / 2 ^ 2) &&& 0x33) + (b &&& 0x33)
def all256 (p : Nat → Bool) : Nat → Bool
  | 0 => true
  | n + 1 => p n && all256 p n
theorem all256_spec {p : Nat → Bool} : ∀ {n}, all256 p n = true → ∀ b, b < n → p b = true
  | 0, _, b, hb => by omega
  | n + 1, h, b, hb => by
    simp only [all256, Bool.and_eq_true] at h
    by_cases he : b = n
    · subst he; exact h.1
    · exact all256_spec h.2 b (by omega)
def onesB (b : Nat) : Nat := b % 2 + b / 2 % 2 + b / 4 % 2 + b / 8 % 2 + b / 16 % 2 + b / 32 % 2 + b / 64 % 2 + b / 128 % 2
theorem ones_byte {b : Nat} (h : b < 256) : ones b = onesB b := by
  unfold onesB
  rw [ones_step, ones_step (b / 2), ones_step (b / 2 / 2), ones_step (b / 2 / 2 / 2), ones_step (b / 2 / 2 / 2 / 2), ones_step (b / 2 / 2 / 2 / 2 / 2), ones_step (b / 2 / 2 / 2 / 2 / 2 / 2), ones_step (b / 2 / 2 / 2 / 2 / 2 / 2 / 2)]
  rw [show b / 2 / 2 / 2 / 2 / 2 / 2 / 2 / 2 = 0 by omega, ones_zero]
  omega

def swar (x : Nat) : Nat :=
  let x := (x / 2 ^ 1 &&& 6148914691236517205) + (x &&& 6148914691236517205)
  let x := (x / 2 ^ 2 &&& 3689348814741910323) + (x &&& 3689348814741910323)
  let x := (x / 2 ^ 4 + x) &&& 1085102592571150095
  let x := x + x / 2 ^ 8
  let x := x + x / 2 ^ 16
  let x := x + x / 2 ^ 32
  x &&& 127

def sumB : Nat → Nat → Nat
  | 0, _ => 0
  | k + 1, x => x % 256 + sumB k (x / 256)

theorem nib_bmap {g : Nat → Nat} (hg : ∀ b, b < 256 → g b < 256 ∧ g b % 16 ≤ 4 ∧ g b / 16 % 16 ≤ 4) : ∀ k x, nib (bmap g k x) k
  | 0, x => rfl
  | k + 1, x => by
    have := hg (x % 256) (Nat.mod_lt _ (by omega))
    simp only [bmap, nib]
    refine ⟨by omega, by omega, ?_⟩
    rw [show (g (x % 256) + 256 * bmap g k (x / 256)) / 256 = bmap g k (x / 256) by omega]
    exact nib_bmap hg k _

theorem sumB_bmap {g : Nat → Nat} (hg : ∀ b, b < 256 → g b = ones b) (hlt : ∀ b, b < 256 → g b < 256) : ∀ k x, x < 256 ^ k → sumB k (bmap g k x) = ones x
  | 0, x, h => by
    have : x = 0 := by simpa using h
    subst this
    simp [sumB, ones_zero]
  | k + 1, x, h => by
    have h1 := hlt (x % 256) (Nat.mod_lt _ (by omega))
    simp only [sumB, bmap]
    rw [show (g (x % 256) + 256 * bmap g k (x / 256)) % 256 = g (x % 256) by omega, show (g (x % 256) + 256 * bmap g k (x / 256)) / 256 = bmap g k (x / 256) by omega]
    rw [sumB_bmap hg hlt k (x / 256) (by rw [Nat.pow_succ] at h; omega), hg _ (Nat.mod_lt _ (by omega))]
    have := ones_add 8 (x % 256) (x / 256) (Nat.mod_lt _ (by omega))
    rw [← this]
    congr 1
    omega

theorem small_bmap {g : Nat → Nat} (hg : ∀ b, b < 256 → g b ≤ 8) : ∀ k x, ∀ i, i < k → bmap g k x / 256 ^ i % 256 ≤ 8
  | k + 1, x, 0, _ => by
    have := hg (x % 256) (Nat.mod_lt _ (by omega))
    simp only [bmap, Nat.pow_zero, Nat.div_one]
    omega
  | k + 1, x, i + 1, h => by
    have := hg (x % 256) (Nat.mod_lt _ (by omega))
    simp only [bmap]
    rw [Nat.pow_succ', ← Nat.div_div_eq_div_mul, show (g (x % 256) + 256 * bmap g k (x / 256)) / 256 = bmap g k (x / 256) by omega]
    exact small_bmap hg k _ i (by omega)

theorem fold_arith (y r1 r2 r3 r4 r5 r6 r7 : Nat) (h1 : y / 256 = r1) (h2 : r1 / 256 = r2) (h3 : r2 / 256 = r3) (h4 : r3 / 256 = r4) (h5 : r4 / 256 = r5) (h6 : r5 / 256 = r6) (h7 : r6 / 256 = r7) (h8 : r7 / 256 = 0)
    (c0 : y % 256 ≤ 8) (c1 : r1 % 256 ≤ 8) (c2 : r2 % 256 ≤ 8) (c3 : r3 % 256 ≤ 8) (c4 : r4 % 256 ≤ 8) (c5 : r5 % 256 ≤ 8) (c6 : r6 % 256 ≤ 8) (c7 : r7 % 256 ≤ 8) :
    (y + r1 + (y + r1) / 2 ^ 16 + (y + r1 + (y + r1) / 2 ^ 16) / 2 ^ 32) % 128 = y % 256 + r1 % 256 + r2 % 256 + r3 % 256 + r4 % 256 + r5 % 256 + r6 % 256 + r7 % 256 := by
  have g2 : (y + r1) / 2 ^ 16 = r2 + r3 := by clear h4 h5 h6 h7 h8 c4 c5 c6 c7; omega
  have g3 : (y + r1 + (r2 + r3)) / 2 ^ 32 = r4 + r5 + r6 + r7 := by clear g2 h8 ; omega
  rw [g2, g3]
  clear g2 g3
  omega

theorem fold_sum (y : Nat) (c0 : y / 256 ^ 0 % 256 ≤ 8) (c1 : y / 256 ^ 1 % 256 ≤ 8) (c2 : y / 256 ^ 2 % 256 ≤ 8) (c3 : y / 256 ^ 3 % 256 ≤ 8) (c4 : y / 256 ^ 4 % 256 ≤ 8)
    (c5 : y / 256 ^ 5 % 256 ≤ 8) (c6 : y / 256 ^ 6 % 256 ≤ 8) (c7 : y / 256 ^ 7 % 256 ≤ 8) (hlt : y < 256 ^ 8) :
    (y + y / 2 ^ 8 + (y + y / 2 ^ 8) / 2 ^ 16 + (y + y / 2 ^ 8 + (y + y / 2 ^ 8) / 2 ^ 16) / 2 ^ 32) &&& 127 = sumB 8 y := by
  have hm : ∀ a, a &&& 127 = a % 128 := fun a => Nat.and_two_pow_sub_one_eq_mod a 7
  rw [hm]
  have hd : ∀ i, y / 256 ^ i / 256 = y / 256 ^ (i + 1) := fun i => by rw [Nat.pow_succ, Nat.div_div_eq_div_mul]
  have e0 : y / 256 ^ 0 = y := by simp
  have h8 : y / 256 ^ 8 = 0 := Nat.div_eq_of_lt hlt
  have q1 : y / 2 ^ 8 = y / 256 := rfl
  have := fold_arith y (y / 256) _ _ _ _ _ _ rfl rfl rfl rfl rfl rfl rfl (by
    have h1 := hd 0
    rw [e0] at h1
    rw [h1, hd, hd, hd, hd, hd, hd, hd]
    exact h8) (by simpa using c0)
  have k0 : y / 256 = y / 256 ^ 1 := by rw [Nat.pow_one]
  simp only [k0, hd] at this
  have := this c1 c2 c3 c4 c5 c6 c7
  rw [q1]
  simp only [sumB, k0, hd]
  rw [this]
  omega

theorem swar_ones {x : Nat} (h : x < 18446744073709551616) : swar x = ones x := by
  have m55 : 6148914691236517205 = rep 0x55 8 := by decide
  have m33 : 3689348814741910323 = rep 0x33 8 := by decide
  have m0f : 1085102592571150095 = rep 15 8 := by decide
  have hp : ∀ b, b < 256 → pb b < 256 := fun b hb => by have := all256_spec (p := fun b => decide (pb b < 256)) (n := 256) (by decide +kernel) b hb; simpa using this
  have hq : ∀ b, b < 256 → qb (pb b) < 256 ∧ qb (pb b) % 16 ≤ 4 ∧ qb (pb b) / 16 % 16 ≤ 4 := fun b hb => by
    have := all256_spec (p := fun b => decide (qb (pb b) < 256 ∧ qb (pb b) % 16 ≤ 4 ∧ qb (pb b) / 16 % 16 ≤ 4)) (n := 256) (by decide +kernel) b hb
    simpa using this
  have hr : ∀ b, b < 256 → qb (pb b) / 16 + qb (pb b) % 16 = onesB b := fun b hb => by
    have := all256_spec (p := fun b => decide (qb (pb b) / 16 + qb (pb b) % 16 = onesB b)) (n := 256) (by decide +kernel) b hb
    simpa using this
  have d1 : ∀ b, b < 256 → ∀ c, c < 2 ^ 1 → (b / 2 ^ 1 + c * 2 ^ (8 - 1)) &&& 0x55 = (b / 2 ^ 1) &&& 0x55 := fun b hb c hc => by
    have := all256_spec (p := fun b => all256 (fun c => decide ((b / 2 ^ 1 + c * 2 ^ (8 - 1)) &&& 0x55 = (b / 2 ^ 1) &&& 0x55)) 2) (n := 256) (by decide +kernel) b hb
    have := all256_spec this c hc
    simpa using this
  have d2 : ∀ b, b < 256 → ∀ c, c < 2 ^ 2 → (b / 2 ^ 2 + c * 2 ^ (8 - 2)) &&& 0x33 = (b / 2 ^ 2) &&& 0x33 := fun b hb c hc => by
    have := all256_spec (p := fun b => all256 (fun c => decide ((b / 2 ^ 2 + c * 2 ^ (8 - 2)) &&& 0x33 = (b / 2 ^ 2) &&& 0x33)) 4) (n := 256) (by decide +kernel) b hb
    have := all256_spec this c hc
    simpa using this
  have s1 : (x / 2 ^ 1 &&& 6148914691236517205) + (x &&& 6148914691236517205) = bmap pb 8 x := by
    rw [m55, shr_and_rep (by omega) (by omega) d1, and_rep (by omega), bmap_add]
    rfl
  have s2 : (bmap pb 8 x / 2 ^ 2 &&& 3689348814741910323) + (bmap pb 8 x &&& 3689348814741910323) = bmap (fun b => qb (pb b)) 8 x := by
    rw [m33, shr_and_rep (by omega) (by omega) d2, and_rep (by omega), bmap_add]
    exact bmap_bmap (h := qb) hp 8 x
  have s3 : (bmap (fun b => qb (pb b)) 8 x / 2 ^ 4 + bmap (fun b => qb (pb b)) 8 x) &&& 1085102592571150095 = bmap onesB 8 x := by
    rw [m0f, show (2 : Nat) ^ 4 = 16 from rfl, fold_nib 8 _ (nib_bmap hq 8 x), bmap_bmap (fun b hb => (hq b hb).1)]
    exact bmap_congr hr 8 x
  unfold swar
  simp only [s1, s2, s3]
  have hb8 : ∀ b, b < 256 → onesB b ≤ 8 := fun b _ => by unfold onesB; omega
  have hs := sumB_bmap (g := onesB) (fun b hb => (ones_byte hb).symm) (fun b hb => by have := hb8 b hb; omega) 8 x (by simpa using h)
  rw [← hs]
  have hlt : bmap onesB 8 x < 256 ^ 8 := by
    have : ∀ k x, bmap onesB k x < 256 ^ k := by
      intro k
      induction k with
      | zero => intro x; simp [bmap]
      | succ k ih =>
        intro x
        have := ih (x / 256)
        have := hb8 (x % 256) (Nat.mod_lt _ (by omega))
        simp only [bmap]
        rw [Nat.pow_succ]
        omega
    exact this 8 x
  have c0 := small_bmap hb8 8 x 0 (by omega)
  have c1 := small_bmap hb8 8 x 1 (by omega)
  have c2 := small_bmap hb8 8 x 2 (by omega)
  have c3 := small_bmap hb8 8 x 3 (by omega)
  have c4 := small_bmap hb8 8 x 4 (by omega)
  have c5 := small_bmap hb8 8 x 5 (by omega)
  have c6 := small_bmap hb8 8 x 6 (by omega)
  have c7 := small_bmap hb8 8 x 7 (by omega)
  generalize bmap onesB 8 x = y at *
  exact fold_sum y c0 c1 c2 c3 c4 c5 c6 c7 hlt

end Go.Proofs.YtgeemplpgfiidaaGreatDoor.Mv
/- The program's tables, as they lie in memory. -/
namespace Go.Proofs.YtgeemplpgfiidaaGreatDoor.Mv
open Go Go.RowKit

def byteV (b : UInt8) : Value := .int .u8 b.toNat
def u32V (n : Nat) : Value := .int .u32 n
def u64V (n : Nat) : Value := .int .u64 n
def intV (n : Int) : Value := .int .i64 n

def brL : List Nat := [
  0, 1, 56, 2, 57, 49, 28, 3, 61, 58, 42, 50, 38, 29, 17, 4,
  62, 47, 59, 36, 45, 43, 51, 22, 53, 39, 33, 30, 24, 18, 12, 5,
  63, 55, 48, 27, 60, 41, 37, 16, 46, 35, 44, 21, 52, 32, 23, 11,
  54, 26, 40, 15, 34, 20, 31, 10, 25, 14, 19, 9, 13, 8, 7, 6]
def firstL : List UInt8 := [
  0x6a, 0x09, 0xe6, 0x67, 0xbb, 0x67, 0xae, 0x85, 0x3c, 0x6e, 0xf3, 0x72, 0xa5, 0x4f, 0xf5, 0x3a,
  0x51, 0x0e, 0x52, 0x7f, 0x9b, 0x05, 0x68, 0x8c, 0x1f, 0x83, 0xd9, 0xab, 0x5b, 0xe0, 0xcd, 0x19]
def kL : List Nat := [
  0x428a2f98, 0x71374491, 0xb5c0fbcf, 0xe9b5dba5, 0x3956c25b, 0x59f111f1, 0x923f82a4, 0xab1c5ed5,
  0xd807aa98, 0x12835b01, 0x243185be, 0x550c7dc3, 0x72be5d74, 0x80deb1fe, 0x9bdc06a7, 0xc19bf174,
  0xe49b69c1, 0xefbe4786, 0x0fc19dc6, 0x240ca1cc, 0x2de92c6f, 0x4a7484aa, 0x5cb0a9dc, 0x76f988da,
  0x983e5152, 0xa831c66d, 0xb00327c8, 0xbf597fc7, 0xc6e00bf3, 0xd5a79147, 0x06ca6351, 0x14292967,
  0x27b70a85, 0x2e1b2138, 0x4d2c6dfc, 0x53380d13, 0x650a7354, 0x766a0abb, 0x81c2c92e, 0x92722c85,
  0xa2bfe8a1, 0xa81a664b, 0xc24b8b70, 0xc76c51a3, 0xd192e819, 0xd6990624, 0xf40e3585, 0x106aa070,
  0x19a4c116, 0x1e376c08, 0x2748774c, 0x34b0bcb5, 0x391c0cb3, 0x4ed8aa4a, 0x5b9cca4f, 0x682e6ff3,
  0x748f82ee, 0x78a5636f, 0x84c87814, 0x8cc70208, 0x90befffa, 0xa4506ceb, 0xbef9a3f7, 0xc67178f2]

/-- The program's tables lie in memory: those of the hash. -/
structure GlobH (w : World) : Prop where
  first : CellsAt w 0 0 (firstL.map byteV)
  k : CellsAt w 2 0 (kL.map u32V)
  lt : 3 < w.heap.size
theorem GlobH.ext {w w' : World} (h : GlobH w) (e : Ext w w') : GlobH w' := ⟨h.first.ext e, h.k.ext e, Nat.lt_of_lt_of_le h.lt e.size⟩
theorem GlobH.below {B : Nat} {w w' : World} (h : GlobH w) (e : Below B w w') (hB : 3 < B) : GlobH w' :=
  ⟨fun j u hu => cell_below (h.first j u hu) e (by omega), fun j u hu => cell_below (h.k j u hu) e (by omega), Nat.lt_of_lt_of_le h.lt e.size⟩
/-- And those of the bits. -/
structure Glob (w : World) : Prop extends GlobH w where
  bruijn : CellsAt w 3 0 (brL.map fun n : Nat => Value.int .u8 n)
theorem Glob.ext {w w' : World} (h : Glob w) (e : Ext w w') : Glob w' := ⟨h.toGlobH.ext e, h.bruijn.ext e⟩
theorem Glob.below {B : Nat} {w w' : World} (h : Glob w) (e : Below B w w') (hB : 3 < B) : Glob w' :=
  ⟨h.toGlobH.below e hB, fun j u hu => cell_below (h.bruijn j u hu) e (by omega)⟩
/-! ### How data lie in cells -/
def codByte : Cod UInt8 := { cells := fun b => [byteV b], size := 1, pos := by decide, len := fun _ => rfl, one := by intro a u hu; simp at hu; subst hu; rfl }
theorem codByte_all (l : List UInt8) : codByte.all l = l.map byteV := by
  unfold Cod.all
  induction l with
  | nil => rfl
  | cons a r ih => simp only [List.flatMap_cons, ih, List.map_cons]; rfl
def codU64 : Cod Nat := { cells := fun b => [u64V b], size := 1, pos := by decide, len := fun _ => rfl, one := by intro a u hu; simp at hu; subst hu; rfl }
def codInt : Cod Int := { cells := fun b => [intV b], size := 1, pos := by decide, len := fun _ => rfl, one := by intro a u hu; simp at hu; subst hu; rfl }
/-- A hash. -/
abbrev H := { l : List UInt8 // l.length = 32 }
def H.cells (h : H) : List Value := h.1.map byteV
theorem H.len (h : H) : (H.cells h).length = 32 := by simp [H.cells, h.2]
theorem bytes_one (l : List UInt8) : ∀ u ∈ l.map byteV, u.oneCell' = true := by
  intro u hu
  obtain ⟨b, _, rfl⟩ := List.mem_map.1 hu
  rfl
def codHash : Cod H := { cells := H.cells, size := 32, pos := by decide, len := H.len, one := fun h => bytes_one h.1 }
def H.val (h : H) : Value := .agg (H.cells h).toArray
/-- A spot. -/
structure Spot where
  h : Nat
  i : Nat
  deriving DecidableEq
def Spot.cells (s : Spot) : List Value := [.int .u8 s.h, u64V s.i]
def Spot.val (s : Spot) : Value := .agg (Spot.cells s).toArray
def codSpot : Cod Spot := { cells := Spot.cells, size := 2, pos := by decide, len := fun _ => rfl, one := by intro a u hu; simp [Spot.cells] at hu; rcases hu with rfl | rfl <;> rfl }
end Go.Proofs.YtgeemplpgfiidaaGreatDoor.Mv
/- The hash as a plain function on bytes. No program in sight. -/
namespace Go.Proofs.YtgeemplpgfiidaaGreatDoor.Mv
open Go

/-- The width as it counts. -/
def width (w : Int) : Nat := (if 32 < (if 1 > w then 1 else w) then 32 else if 1 > w then 1 else w).toNat
theorem width_le (w : Int) : width w ≤ 32 := by unfold width; split <;> omega
theorem width_pos (w : Int) : 1 ≤ width w := by unfold width; split <;> (split <;> omega)

def cutH (w : Int) (h : H) : H := ⟨h.1.take (width w) ++ List.replicate (32 - width w) 0, by
  have := width_le w; have := h.2; simp; omega⟩

def rotr (x : Int) (n : Nat) : Int := bitsV .or .u32 (shlV .u32 x ((32 - n : Nat) : Int)) (shrV .u32 x (n : Int))
def xor32 (x y : Int) : Int := bitsV .xor .u32 x y
def and32 (x y : Int) : Int := bitsV .and .u32 x y
def add32 (x y : Int) : Int := IntKind.u32.wrap (x + y)
def not32 (x : Int) : Int := bitsV .xor .u32 (if IntKind.u32.signed then -1 else IntKind.u32.max) x

def fromBig (l : List UInt8) : Nat := l.foldl (fun x b => x * 256 + b.toNat) 0
def wordF (l : List UInt8) (i : Nat) : Int := fromBig ((l.take (4 * i + 4)).drop (4 * i))

def sched1 (m : List Int) (t : Nat) : Int :=
  let x := m.getD (t - 15) 0
  let y := m.getD (t - 2) 0
  let s0 := xor32 (xor32 (rotr x 7) (rotr x 18)) (shrV .u32 x 3)
  let s1 := xor32 (xor32 (rotr y 17) (rotr y 19)) (shrV .u32 y 10)
  add32 (add32 (add32 s1 (m.getD (t - 7) 0)) s0) (m.getD (t - 16) 0)
def sched (blk : List UInt8) : Nat → List Int
  | 0 => []
  | t + 1 => sched blk t ++ [if t < 16 then wordF blk t else sched1 (sched blk t) t]
theorem sched_len (blk : List UInt8) : ∀ t, (sched blk t).length = t
  | 0 => rfl
  | t + 1 => by simp [sched, sched_len blk t]

def words8 (st : List UInt8) : Nat → List Int
  | 0 => []
  | i + 1 => words8 st i ++ [wordF st i]
theorem words8_len (st : List UInt8) : ∀ t, (words8 st t).length = t
  | 0 => rfl
  | t + 1 => by simp [words8, words8_len st t]

def round1 (v : List Int) (k m : Int) : List Int :=
  let a := v.getD 0 0
  let b := v.getD 1 0
  let c := v.getD 2 0
  let e := v.getD 4 0
  let f := v.getD 5 0
  let g := v.getD 6 0
  let t1 := add32 (add32 (add32 (add32 (v.getD 7 0) (xor32 (xor32 (rotr e 6) (rotr e 11)) (rotr e 25))) (xor32 (and32 e f) (and32 (not32 e) g))) k) m
  let t2 := add32 (xor32 (xor32 (rotr a 2) (rotr a 13)) (rotr a 22)) (xor32 (xor32 (and32 a b) (and32 a c)) (and32 b c))
  [add32 t1 t2, a, b, c, add32 (v.getD 3 0) t1, e, f, g]
def rounds (m : List Int) (v : List Int) : Nat → List Int
  | 0 => v
  | t + 1 => round1 (rounds m v t) (kL.getD t 0 : Nat) (m.getD t 0)

/-- The bytes of a number, the greatest first. -/
def bigL (x : Nat) : Nat → List UInt8
  | 0 => []
  | n + 1 => UInt8.ofNat (x / 256 ^ n % 256) :: bigL x n
theorem bigL_len (x : Nat) : ∀ n, (bigL x n).length = n
  | 0 => rfl
  | n + 1 => by simp [bigL, bigL_len x n]

def outL (s v : List Int) : Nat → List UInt8
  | 0 => []
  | i + 1 => outL s v i ++ bigL (add32 (s.getD i 0) (v.getD i 0)).toNat 4
theorem outL_len (s v : List Int) : ∀ n, (outL s v n).length = 4 * n
  | 0 => rfl
  | n + 1 => by simp [outL, outL_len s v n, bigL_len]; omega

def compress (w : Int) (st : H) (blk : List UInt8) : H :=
  cutH w ⟨outL (words8 st.1 8) (rounds (sched blk 64) (words8 st.1 8) 64) 8, outL_len _ _ 8⟩

/-- What has been taken of a text. -/
structure HS where
  st : H
  rest : List UInt8
  n : Nat
def feed1 (w : Int) (s : HS) (b : UInt8) : HS :=
  let r := s.rest.set (s.n % 64) b
  { st := if (s.n + 1) % 64 = 0 then compress w s.st r else s.st, rest := r, n := s.n + 1 }
def feed (w : Int) (s : HS) (l : List UInt8) : HS := l.foldl (feed1 w) s
def hs0 (w : Int) : HS := { st := cutH w ⟨firstL, rfl⟩, rest := List.replicate 64 0, n := 0 }
def tailL (n : Nat) : List UInt8 := 128 :: List.replicate ((119 - n % 64) % 64) 0 ++ bigL (8 * n) 8
def hsum (w : Int) (l : List UInt8) : H := (feed w (feed w (hs0 w) l) (tailL l.length)).st

theorem feed_append (w : Int) (s : HS) (l m : List UInt8) : feed w s (l ++ m) = feed w (feed w s l) m := by simp [feed, List.foldl_append]
theorem feed_n (w : Int) (s : HS) (l : List UInt8) : (feed w s l).n = s.n + l.length := by
  induction l generalizing s with
  | nil => rfl
  | cons b r ih => simp only [feed, List.foldl_cons] at ih ⊢; rw [ih]; simp [feed1]; omega
theorem feed_rest (w : Int) (s : HS) (l : List UInt8) : (feed w s l).rest.length = s.rest.length := by
  induction l generalizing s with
  | nil => rfl
  | cons b r ih => simp only [feed, List.foldl_cons] at ih ⊢; rw [ih]; simp [feed1]

/-- As many bytes as fit into the block, at once. -/
theorem feed_chunk (w : Int) (s : HS) (l : List UInt8) (hr : s.rest.length = 64) (hl : s.n % 64 + l.length ≤ 64) (h0 : l ≠ []) :
    feed w s l = { st := if (s.n + l.length) % 64 = 0 then compress w s.st (s.rest.take (s.n % 64) ++ l ++ s.rest.drop (s.n % 64 + l.length)) else s.st,
                   rest := s.rest.take (s.n % 64) ++ l ++ s.rest.drop (s.n % 64 + l.length), n := s.n + l.length } := by
  induction l generalizing s with
  | nil => exact absurd rfl h0
  | cons b r ih =>
    have hlt : s.n % 64 < s.rest.length := by simp at hl; omega
    have hset : s.rest.set (s.n % 64) b = s.rest.take (s.n % 64) ++ [b] ++ s.rest.drop (s.n % 64 + 1) := by
      rw [List.set_eq_take_append_cons_drop, if_pos hlt]; simp
    by_cases hrn : r = []
    · subst hrn
      simp only [feed, List.foldl_cons, List.foldl_nil, feed1, hset, List.length_cons, List.length_nil, Nat.zero_add]
    · have hlen : 0 < r.length := List.length_pos_iff.2 hrn
      have hmod : (s.n + 1) % 64 = s.n % 64 + 1 := by simp at hl; omega
      have hf : feed w s (b :: r) = feed w (feed1 w s b) r := rfl
      have hf1 : feed1 w s b = { st := s.st, rest := s.rest.set (s.n % 64) b, n := s.n + 1 } := by
        unfold feed1
        simp only []
        rw [if_neg (by omega)]
      rw [hf, hf1, ih _ (by simp [hr]) (by simp only [hmod]; simp at hl; omega) hrn]
      simp only [hmod]
      have e1 : s.n + 1 + r.length = s.n + (b :: r).length := by simp; omega
      have e2 : (s.rest.set (s.n % 64) b).take (s.n % 64 + 1) ++ r ++ (s.rest.set (s.n % 64) b).drop (s.n % 64 + 1 + r.length) =
          s.rest.take (s.n % 64) ++ b :: r ++ s.rest.drop (s.n % 64 + (b :: r).length) := by
        have ht : (s.rest.take (s.n % 64)).length = s.n % 64 := by simp; omega
        rw [hset, List.take_left' (by simp; omega), List.drop_append, List.drop_eq_nil_of_le (by simp; omega), List.nil_append, List.drop_drop]
        simp only [List.append_assoc, List.cons_append, List.nil_append, List.length_append, ht, List.length_cons, List.length_nil]
        congr 4
        omega
      rw [e2]
      simp only [e1]

/-! The texts that are hashed. -/
def nodeT (l r : H) : List UInt8 := 1 :: (l.1 ++ r.1)
def foldT (l r : H) : List UInt8 := 2 :: (l.1 ++ r.1)
def rootT (n : Nat) (a : H) : List UInt8 := 3 :: (bigL n 8 ++ a.1)
def leafT (d : List UInt8) : List UInt8 := 0 :: d
def nodeH (w : Int) (l r : H) : H := hsum w (nodeT l r)
def foldH (w : Int) (l r : H) : H := hsum w (foldT l r)
def rootH (w : Int) (n : Nat) (a : H) : H := hsum w (rootT n a)
def leafH (w : Int) (d : List UInt8) : H := hsum w (leafT d)
end Go.Proofs.YtgeemplpgfiidaaGreatDoor.Mv
