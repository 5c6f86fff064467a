/- verify: what is known by its spot, and the value of a spot. -/
import Derived.Test.YtgeemplpgfiidaaGreatDoorLf
namespace Go.Proofs.YtgeemplpgfiidaaGreatDoor.Mv
open Go Go.RowKit Go.Proofs

/-! Types that are compared -/
theorem eqHash : EqT Tryz.prog 24 2 H.val := EqT.hash Tryz.underlying24 Tryz.underlying5 Tryz.sizeOf5
theorem eqSpot : EqT Tryz.prog 159 2 Spot.val := EqT.pair (t0 := 5) (t1 := 22) (p0 := Spot.h) (p1 := Spot.i) (cs := Spot.cells) Tryz.underlying159 Tryz.stoodInHeld159 ⟨by decide, by decide⟩ ⟨rfl, rfl⟩ (fun _ => rfl)
  (fun c w => run_part_one tfU8 rfl) (fun c w => run_part_one tfU64 rfl) (fun c d => by cases c; cases d; simp) (EqT.int Tryz.underlying5) (EqT.int Tryz.underlying22)
theorem bits_list (n : Nat) : ∀ (l : List Value), (∀ v ∈ l, Instr.sameBits n v v = true) → (l.zip l).all (fun (x, y) => Instr.sameBits n x y) = true
  | [], _ => rfl
  | a :: r, h => by
    simp only [List.zip_cons_cons, List.all_cons, Bool.and_eq_true]
    exact ⟨h a (by simp), bits_list n r (fun v hv => h v (by simp [hv]))⟩
theorem bits_int (n : Nat) (k : IntKind) (a : Int) : Instr.sameBits n (.int k a) (.int k a) = true := by cases n <;> simp [Instr.sameBits]
theorem bits_agg (n : Nat) (l : List Value) (h : ∀ v ∈ l, Instr.sameBits n v v = true) : Instr.sameBits (n + 1) (.agg l.toArray) (.agg l.toArray) = true := by
  simp only [Instr.sameBits, beq_self_eq_true, Bool.true_and]
  exact bits_list n l h
theorem bits_hash (n : Nat) (h : H) : Instr.sameBits (n + 1) (H.val h) (H.val h) = true := bits_agg n _ fun v hv => by
  obtain ⟨b, _, rfl⟩ := List.mem_map.1 hv
  exact bits_int _ _ _
theorem keySpot : KeyT Tryz.prog 159 Spot.val := KeyT.wide eqSpot (by omega) (by rw [Tryz.underlying159]) (fun s => bits_agg 9999 _ fun v hv => by
  simp [Spot.cells] at hv
  rcases hv with rfl | rfl <;> exact bits_int _ _ _)
theorem keyHash : KeyT Tryz.prog 24 H.val := KeyT.wide eqHash (by omega) (by rw [Tryz.underlying24]) (fun s => bits_hash 9999 s)

/-! The value of a spot -/
def lft (s : Spot) : Spot := ⟨s.h - 1, 2 * s.i⟩
def rgt (s : Spot) : Spot := ⟨s.h - 1, 2 * s.i + 1⟩
theorem rgt_good {s : Spot} (g : s.Good) (h : 0 < s.h) : (rgt s).Good := by
  unfold Spot.Good rgt at *
  simp only
  have : (2 * s.i + 1 + 1) * 2 ^ (s.h - 1) = (s.i + 1) * 2 ^ s.h := by
    conv => rhs; rw [show s.h = (s.h - 1) + 1 by omega, Nat.pow_succ]
    rw [show 2 * s.i + 1 + 1 = 2 * (s.i + 1) by omega, Nat.mul_assoc, Nat.mul_left_comm, Nat.mul_comm (2 ^ (s.h - 1)) 2]
  omega
theorem lft_good {s : Spot} (g : s.Good) (h : 0 < s.h) : (lft s).Good := by
  have := rgt_good g h
  unfold Spot.Good lft rgt at *
  simp only at *
  have h2 : (2 * s.i + 1) * 2 ^ (s.h - 1) ≤ (2 * s.i + 1 + 1) * 2 ^ (s.h - 1) := Nat.mul_le_mul_right _ (by omega)
  omega

abbrev Kn := List (Spot × H)
def valN (wd : Int) (K : Kn) : Nat → Spot → H
  | 0, s => (getA s K).getD zeroH
  | n + 1, s => match getA s K with
    | some x => x
    | none => nodeH wd (valN wd K n (lft s)) (valN wd K n (rgt s))
def valS (wd : Int) (K : Kn) (s : Spot) : H := valN wd K s.h s
theorem valS_known {wd : Int} {K : Kn} {s : Spot} {x : H} (h : getA s K = some x) : valS wd K s = x := by
  unfold valS
  cases s.h <;> simp [valN, h]
theorem valS_kids {wd : Int} {K : Kn} {s : Spot} (h : getA s K = none) (h0 : 0 < s.h) : valS wd K s = nodeH wd (valS wd K (lft s)) (valS wd K (rgt s)) := by
  unfold valS
  obtain ⟨n, hn⟩ : ∃ n, s.h = n + 1 := ⟨s.h - 1, by omega⟩
  rw [hn, valN, h]
  have h1 : (lft s).h = n := by simp [lft, hn]
  have h2 : (rgt s).h = n := by simp [rgt, hn]
  rw [h1, h2]

/-- All that is looked for below a spot is known. -/
inductive Cov (K : Kn) : Spot → Prop where
  | known {s : Spot} {x : H} (h : getA s K = some x) : Cov K s
  | kids {s : Spot} (h0 : 0 < s.h) (l : Cov K (lft s)) (r : Cov K (rgt s)) : Cov K s

/-- A map of what has been reckoned: what is known, and values. -/
structure Memo (wd : Int) (K l : Kn) : Prop where
  sub : ∀ s x, getA s K = some x → getA s l = some x
  val : ∀ s x, getA s l = some x → x = valS wd K s
theorem Memo.refl (wd : Int) (K : Kn) : Memo wd K K := ⟨fun _ _ h => h, fun _ _ h => (valS_known h).symm⟩
theorem getA_set {α β : Type} [DecidableEq α] (a b : α) (v : β) : ∀ (l : List (α × β)), getA b (setA a v l) = if b = a then some v else getA b l
  | [] => by simp [setA, getA]
  | p :: r => by
    simp only [setA]
    by_cases h : a = p.1
    · rw [if_pos h]
      simp only [getA]
      by_cases hb : b = a
      · simp [hb]
      · rw [if_neg hb, if_neg hb, if_neg (fun e => hb (by rw [e, h]))]
    · rw [if_neg h]
      simp only [getA]
      by_cases hb : b = p.1
      · rw [if_pos hb, if_neg (fun e => h (by rw [← e, hb])), if_pos hb]
      · rw [if_neg hb, getA_set a b v r]
        split
        · rfl
        · rfl
theorem getA_map {α β γ : Type} [DecidableEq α] (f : β → γ) (a : α) : ∀ (l : List (α × β)), getA a (l.map fun p => (p.1, f p.2)) = (getA a l).map f
  | [] => rfl
  | p :: r => by
    simp only [List.map_cons, getA]
    split
    · rfl
    · exact getA_map f a r
theorem setA_map {α β γ : Type} [DecidableEq α] (f : β → γ) (a : α) (v : β) : ∀ (l : List (α × β)), setA a (f v) (l.map fun p => (p.1, f p.2)) = (setA a v l).map fun p => (p.1, f p.2)
  | [] => rfl
  | p :: r => by
    simp only [List.map_cons, setA]
    split
    · rfl
    · rw [setA_map f a v r]; rfl
theorem Memo.set {wd : Int} {K l : Kn} (h : Memo wd K l) {s : Spot} {x : H} (hx : x = valS wd K s) : Memo wd K (setA s x l) := by
  refine ⟨fun t y ht => ?_, fun t y ht => ?_⟩
  · rw [getA_set]
    split
    · rename_i e
      subst e
      rw [hx, valS_known ht]
    · exact h.sub t y ht
  · rw [getA_set] at ht
    split at ht
    · rename_i e
      cases ht
      rw [e, hx]
    · exact h.val t y ht

def ents (l : Kn) : List (Spot × Value) := l.map fun p => (p.1, H.val p.2)
def KnAt (w : World) (b : Nat) (l : Kn) : Prop := MapAt Spot.val w b (ents l)

def AtOk (wd : Int) (K : Kn) (b : Nat) (s : Spot) : Prop := ∀ (l : Kn) (w : World), GlobH w → 3 < b → Memo wd K l → KnAt w b l →
    Does Tryz.prog 89 [.map (some b), .int .i64 wd, Spot.val s] w (fun r w' => r = H.val (valS wd K s) ∧ (∃ l', Memo wd K l' ∧ KnAt w' b l') ∧ Upd b w w')

theorem at_step (wd : Int) (K : Kn) (b : Nat) (s : Spot) (hg : s.Good) (hk : getA s K = none → 0 < s.h ∧ AtOk wd K b (lft s) ∧ AtOk wd K b (rgt s)) : AtOk wd K b s := by
  intro l w hG hb3 hM hK
  have hh := hg.h
  have hi := hg.i
  have hbl := hK.lt
  (refine DoesX.of_vc tyOk Tryz.func89 rfl ⟨rfl, rfl⟩ rfl ?_; (conv => whnf))
  refine RunP.box ?_
  intro b5 w1 hb5 hO5 hE1
  have hs1 := hE1.size
  have hO5 : Own w1 b5 (Spot.cells s) := hO5
  (conv => whnf)
  refine RunP.new (z := H.val zeroH) Tryz.zeroValue24 ?_
  intro b6 w2 hb6 hO6 hE2
  have hs2 := hE2.size
  have hO6 : Own w2 b6 (H.cells zeroH) := hO6
  have h56 : b5 < b6 := by have := hO5.lt; omega
  have hO5 := hO5.ext hE2
  have hE2 := hE1.trans hE2
  (conv => whnf)
  refine GetP.lds tfSpot (cs := Spot.cells s) rfl hO5.cells ?_
  (conv => whnf)
  refine GetP.lookup (l := ents l) (z := H.val zeroH) keySpot Tryz.underlying161 Tryz.zeroValue24 (fun w' hw' => by subst hw'; exact hK.ext hE2) s ?_
  rw [show getA s (ents l) = (getA s l).map H.val from getA_map H.val s l]
  cases hq : getA s l with
  | some x =>
    have hx := hM.val s x hq
    simp only [Option.map_some, Option.getD_some, Option.isSome_some, if_true]
    (conv => whnf)
    refine RunP.new (z := H.val zeroH) Tryz.zeroValue24 ?_
    intro b7 w3 hb7 hO7 hE3
    have hs3 := hE3.size
    (conv => whnf)
    refine DoP.sts0 tfHash hO7 (H.len x) (H.len zeroH) (bytes_one _) ?_
    intro w4 hO7 hU4
    (conv => whnf)
    refine GetP.lds tfHash (H.len x) hO7.cells ?_
    (conv => whnf)
    have h67 : b6 < b7 := by have := hO6.lt; omega
    refine DoP.sts0 tfHash ((hO6.ext hE3).upd hU4 (by omega)) (H.len x) (H.len _) (bytes_one _) ?_
    intro w5 hO6 hU5
    (conv => whnf)
    refine GetP.ress tfHash (H.len x) hO6.cells ?_
    (conv => whnf)
    have hE5 : Ext w w5 := ((hE2.trans hE3).upd hU4 (by omega)).upd hU5 (by omega)
    refine ⟨by rw [← hx]; rfl, ⟨l, hM, hK.ext hE5⟩, Upd.of_ext hE5⟩
  | none =>
    have hKn : getA s K = none := by
      cases hh : getA s K with
      | none => rfl
      | some y => rw [hM.sub s y hh] at hq; cases hq
    obtain ⟨h0, hl, hr⟩ := hk hKn
    have hv := valS_kids (wd := wd) hKn h0
    simp only [Option.map_none, Option.getD_none, Option.isSome_none, if_true]
    (conv => whnf)
    refine RunP.new (z := H.val zeroH) Tryz.zeroValue24 ?_
    intro b7 w3 hb7 hO7 hE3
    have hs3 := hE3.size
    have h67 : b6 < b7 := by have := hO6.lt; omega
    (conv => whnf)
    refine DoP.sts0 tfHash hO7 (H.len zeroH) (H.len zeroH) (bytes_one _) ?_
    intro w4 hO7 hU4
    have hs4 := hU4.size
    have hE4 : Ext w w4 := (hE2.trans hE3).upd hU4 (by omega)
    have hO5 := (hO5.ext hE3).upd hU4 (by omega)
    have hO6 := (hO6.ext hE3).upd hU4 (by omega)
    (conv => whnf)
    refine draw_with tyOk mixed (.q 0 (.q 1 (.q 2 (.q 3 (.q 4 (.q 5 (.q 6 (.q 7 (.q 8 (.q 9 (.q 11 (.q 12 (.q 13 (.q 14 (.q 15 (.q 16 (.q 17 (.q 18 (.q 19 (.q 20 (.e [(10, .e [(21, .e [(22, .e [(23, .done)])])])]))))))))))))))))))))) (by kernel_rfl) (fun w' => Own w' b5 (Spot.cells s)) (fun w' hx => hO5.ext hx) ?_
    intro w5 hE5 hs5
    have hO5 := hO5.ext hE5
    have hO6 := hO6.ext hE5
    have hO7 := hO7.ext hE5
    have hE5 := hE4.trans hE5
    (conv => whnf)
    refine GetP.ldS tfU8 (v := .int .u8 s.h) (fun w' hw' => by rw [hw'.cell]; rfl) ?_
    (conv => whnf)
    refine NumP.to ((s.h - 1 : Nat) : Int) (by rw [wrap_u8]; omega) ?_
    (conv => whnf)
    refine GetP.ldS tfU64 (v := .int .u64 s.i) (fun w' hw' => by rw [hw'.cell]; rfl) ?_
    (conv => whnf)
    refine NumP.to ((2 * s.i : Nat) : Int) (by rw [wrap_u64]; omega) ?_
    (conv => whnf)
    refine GetP.build (cells := (Spot.cells (lft s)).toArray) (by kernel_rfl) ?_
    (conv => whnf)
    refine GetP.ldS tfU8 (v := .int .u8 s.h) (fun w' hw' => by rw [hw'.cell]; rfl) ?_
    (conv => whnf)
    refine NumP.to ((s.h - 1 : Nat) : Int) (by rw [wrap_u8]; omega) ?_
    (conv => whnf)
    refine GetP.ldS tfU64 (v := .int .u64 s.i) (fun w' hw' => by rw [hw'.cell]; rfl) ?_
    (conv => whnf)
    refine NumP.to ((2 * s.i : Nat) : Int) (by rw [wrap_u64]; omega) ?_
    (conv => whnf)
    refine NumP.to ((2 * s.i + 1 : Nat) : Int) (by rw [wrap_u64]; omega) ?_
    (conv => whnf)
    refine GetP.build (cells := (Spot.cells (rgt s)).toArray) (by kernel_rfl) ?_
    (conv => whnf)
    refine CallP.does (hl l w5 (hG.ext hE5) hb3 hM (hK.ext hE5)) ?_
    rintro r w6 ⟨rfl, ⟨l6, hM6, hK6⟩, hU6⟩
    have hs6 := hU6.size
    have hO5 := hO5.upd hU6 (by omega)
    have hO6 := hO6.upd hU6 (by omega)
    have hO7 := hO7.upd hU6 (by omega)
    have hU06 : Upd b w w6 := (Upd.of_ext hE5).trans hU6
    (conv => whnf)
    (refine BarP.no ?_)
    refine ReqP.mk hO5 ?_
    (conv => whnf)
    refine CallP.does (hr l6 w6 (hG.below (hU06.below (Nat.le_refl _) (by omega)) hb3) hb3 hM6 hK6) ?_
    rintro r w7 ⟨rfl, ⟨l7, hM7, hK7⟩, hU7⟩
    have hs7 := hU7.size
    have hO5 := hO5.upd hU7 (by omega)
    have hO6 := hO6.upd hU7 (by omega)
    have hO7 := hO7.upd hU7 (by omega)
    have hU07 : Upd b w w7 := hU06.trans hU7
    (conv => whnf)
    (refine BarP.no ?_)
    refine ReqP.mk hO5 ?_
    (conv => whnf)
    refine CallP.does (node_ok wd _ _ w7 (hG.below (hU07.below (Nat.le_refl _) (by omega)) hb3)) ?_
    rintro r w8 ⟨rfl, hE8⟩
    have hs8 := hE8.size
    rw [← hv]
    have hO5 := hO5.ext hE8
    have hO6 := hO6.ext hE8
    have hO7 := hO7.ext hE8
    have hU08 : Upd b w w8 := hU07.trans (Upd.of_ext hE8)
    (conv => whnf)
    (refine BarP.no ?_)
    refine ReqP.mk hO5 ?_
    (conv => whnf)
    refine DoP.sts0 tfHash hO7 (H.len (valS wd K s)) (H.len _) (bytes_one _) ?_
    intro w9 hO7 hU9
    have hs9 := hU9.size
    have hO5 := hO5.upd hU9 (by omega)
    have hO6 := hO6.upd hU9 (by omega)
    have hK9 := (hK7.ext hE8).upd hU9 (by omega)
    have hU09 : Upd b w w9 := hU08.belowR (hU9.below (B := w.heap.size) (by omega) (by omega)) (Nat.le_refl _)
    (conv => whnf)
    (refine BarP.yes (by decide +kernel) ?_; (conv => whnf))
    (conv => whnf)
    refine GetP.lds tfSpot (cs := Spot.cells s) rfl hO5.cells ?_
    (conv => whnf)
    refine GetP.lds tfHash (H.len _) hO7.cells ?_
    (conv => whnf)
    refine DoP.mapUpdate keySpot Tryz.underlying161 hK9 s ?_
    intro w10 hK10 hU10
    have hs10 := hU10.size
    have hK10 : KnAt w10 b (setA s (valS wd K s) l7) := by
      have := setA_map H.val s (valS wd K s) l7
      unfold KnAt ents
      rw [← this]
      exact hK10
    have hO6 := hO6.upd hU10 (by omega)
    have hO7 := hO7.upd hU10 (by omega)
    (conv => whnf)
    refine GetP.lds tfHash (H.len _) hO7.cells ?_
    (conv => whnf)
    refine DoP.sts0 tfHash hO6 (H.len (valS wd K s)) (H.len _) (bytes_one _) ?_
    intro w11 hO6 hU11
    (conv => whnf)
    refine GetP.ress tfHash (H.len _) hO6.cells ?_
    (conv => whnf)
    exact ⟨rfl, ⟨_, hM7.set rfl, hK10.upd hU11 (by omega)⟩, (hU09.trans hU10).belowR (hU11.below (B := w.heap.size) (by omega) (by omega)) (Nat.le_refl _)⟩

theorem at_ok (wd : Int) (K : Kn) (b : Nat) {s : Spot} (hc : Cov K s) (hg : s.Good) : AtOk wd K b s := by
  induction hc with
  | known h => exact at_step wd K b _ hg (fun hn => by rw [hn] at h; cases h)
  | kids h0 _ _ ihl ihr => exact at_step wd K b _ hg (fun _ => ⟨h0, ihl (lft_good hg h0), ihr (rgt_good hg h0)⟩)
end Go.Proofs.YtgeemplpgfiidaaGreatDoor.Mv
/- slices.Clone; verify.is. -/
namespace Go.Proofs.YtgeemplpgfiidaaGreatDoor.Mv
open Go Go.RowKit Go.Proofs
section
variable {P : Program}
theorem EqP.sliceNil {S : World → Prop} {t e n c : Nat} {x y : Operand} {a : Option Addr} {k : Bool → Prop} (hu : ∀ w, (underlying t).run P w = .ok (.slice e) w) (hk : k a.isNone) :
    EqP P S .eql t x y (.slice a n c) (.slice none 0 0) k := by
  refine ⟨a.isNone, fun w _ => ⟨?_, ?_⟩, hk⟩
  · simp [eqGuard]
  · have he : (Op.equalIn 10000 t (.slice a n c) (.slice none 0 0)).run P w = .ok a.isNone w := by
      rw [show (10000 : Nat) = 9999 + 1 from rfl, Op.equalIn]
      simp only [Sem.run_bind, hu, Result.andThen_ok]
      cases a <;> simp
    simp only [binOp]
    simp only [Op.equal, Op.maxDepth, Sem.run_bind, he, Result.andThen_ok, Sem.run_pure]
theorem RunP.slice0 {α : Type} {C : Cod α} {w : World} {t e : Nat} {k : Value → World → Prop} (hu : ∀ w, (underlying t).run P w = .ok (.slice e) w) (hs : ∀ w, (sizeOf e).run P w = .ok C.size w)
    (hk : ∀ b w', w.heap.size ≤ b → Grow C e w.heap.size w' (.slice (some ⟨b, 0, none⟩) 0 0) [] → Ext w w' → k (.slice (some ⟨b, 0, none⟩) 0 0) w') : RunP P w (Instr.buildSlice t 0 [].toArray) k := by
  refine ⟨.slice (some ⟨w.heap.size, 0, none⟩) 0 0, w.alloc (.cells #[] e), ?_, hk _ _ (Nat.le_refl _) ?_ (ext_alloc _ _)⟩
  · simp [Instr.buildSlice, hu, hs, newRow, Instr.fill]
    rw [Array.eq_empty_of_size_eq_zero (xs := Array.map (fun x => (default : Value)) (Array.range 0)) (by simp)]
  · exact ⟨by simp [Cod.all], .inr ⟨w.heap.size, 0, #[], rfl, Nat.le_refl _, heap_alloc_new _ _, Nat.le_refl _, by simp [maxLen], by simp, by simp [Cod.all]⟩⟩
end

theorem cloneH_ok (v : Value) (l : List H) (w : World) (hv : Seq codHash w v l) (hn : l.length < 1048576) :
    Does Tryz.prog 90 [v] w (fun r w' => Grow codHash 24 w.heap.size w' r l ∧ Ext w w') := by
  obtain ⟨a, n, c, rfl⟩ := seq_form hv
  (refine DoesX.of_vc tyOk Tryz.func90 rfl ⟨rfl, rfl⟩ rfl ?_; (conv => whnf))
  refine EqP.sliceNil Tryz.runUnderlying44 ?_
  cases a with
  | none =>
    have hl : l = [] := by
      rcases hv with ⟨_, h⟩ | ⟨_, _, _, h, _⟩
      · exact h
      · cases h
    subst hl
    refine CmpP.yes rfl ?_
    (conv => whnf)
    exact ⟨Grow.nil _ _ _ _, Ext.refl _⟩
  | some ad =>
    refine CmpP.no rfl ?_
    (conv => whnf)
    refine RunP.slice0 (C := codHash) Tryz.runUnderlying44 Tryz.sizeOf24 ?_
    intro b5 w1 hb5 hG1 hE1
    have hs1 := hE1.size
    (conv => whnf)
    refine RunP.append elHash hG1 (hv.ext hE1) (by simp only [maxLen, List.length_nil]; omega) (by simp only [List.length_nil]; omega) (by omega) ?_
    intro r w2 hG2 hgr
    (conv => whnf)
    exact ⟨hG2, Below.trans hE1 (hG1.grown_below hgr (by omega))⟩

theorem cloneB_ok (v : Value) (l : List UInt8) (w : World) (hv : Seq codByte w v l) (hn : l.length < 1048576) :
    Does Tryz.prog 41 [v] w (fun r w' => Grow codByte 5 w.heap.size w' r l ∧ Ext w w') := by
  obtain ⟨a, n, c, rfl⟩ := seq_form hv
  (refine DoesX.of_vc tyOk Tryz.func41 rfl ⟨rfl, rfl⟩ rfl ?_; (conv => whnf))
  refine EqP.sliceNil Tryz.runUnderlying25 ?_
  cases a with
  | none =>
    have hl : l = [] := by
      rcases hv with ⟨_, h⟩ | ⟨_, _, _, h, _⟩
      · exact h
      · cases h
    subst hl
    refine CmpP.yes rfl ?_
    (conv => whnf)
    exact ⟨Grow.nil _ _ _ _, Ext.refl _⟩
  | some ad =>
    refine CmpP.no rfl ?_
    (conv => whnf)
    refine RunP.slice0 (C := codByte) Tryz.runUnderlying25 Tryz.sizeOf5 ?_
    intro b5 w1 hb5 hG1 hE1
    have hs1 := hE1.size
    (conv => whnf)
    refine RunP.append elByte hG1 (hv.ext hE1) (by simp only [maxLen, List.length_nil]; omega) (by simp only [List.length_nil]; omega) (by omega) ?_
    intro r w2 hG2 hgr
    (conv => whnf)
    exact ⟨hG2, Below.trans hE1 (hG1.grown_below hgr (by omega))⟩

def isF (wd : Int) (n : Nat) (l : List H) (r : H) : Bool := decide ((bagF wd n l).2 = 0) && decide ((bagF wd n l).1 = r)
theorem is_ok (wd : Int) (n : Nat) (v : Value) (l : List H) (r : H) (hn : n < 18446744073709551616) (w : World) (hg : GlobH w) (hv : Seq codHash w v l) (hl : l.length < 1152921504606846976) :
    Does Tryz.prog 40 [.int .i64 wd, .int .u64 n, v, H.val r] w (fun x w' => x = .bool (isF wd n l r) ∧ Ext w w') := by
  (refine DoesX.of_vc tyOk Tryz.func40 rfl ⟨rfl, rfl⟩ rfl ?_; (conv => whnf))
  refine RunP.box ?_
  intro b7 w1 hb7 hO7 hE1
  have hs1 := hE1.size
  have hO7 : Own w1 b7 (H.cells r) := by simpa [H.val, Value.cells] using hO7
  (conv => whnf)
  refine CallP.does (bag_ok wd n v l hn w1 (hg.ext hE1) (hv.ext hE1) hl) ?_
  rintro x w2 ⟨rfl, hE2⟩
  have hs2 := hE2.size
  (conv => whnf)
  refine RunP.new (z := H.val zeroH) Tryz.zeroValue24 ?_
  intro b9 w3 hb9 hO9 hE3
  have hs3 := hE3.size
  have hO9 : Own w3 b9 (H.cells zeroH) := hO9
  (conv => whnf)
  refine DoP.sts0 tfHash hO9 (H.len (bagF wd n l).1) (H.len _) (bytes_one _) ?_
  intro w4 hO9 hU4
  have h79 : b7 < b9 := by have := hO7.lt; omega
  have hO7 := ((hO7.ext hE2).ext hE3).upd hU4 (by omega)
  have hE4 : Ext w w4 := ((hE1.trans hE2).trans hE3).upd hU4 (by omega)
  (conv => whnf)
  refine CmpP.split (fun h => ?_) (fun h => ?_)
  · have h0 : (bagF wd n l).2 = 0 := by simp only [beq_iff_eq] at h; omega
    (conv => whnf)
    refine GetP.lds tfHash (H.len _) hO9.cells ?_
    (conv => whnf)
    refine GetP.lds tfHash (H.len _) hO7.cells ?_
    (conv => whnf)
    refine EqP.eql (val := H.val) (cs := H.cells) eqHash (by omega) Tryz.eqGuardType24 (fun _ => rfl) (bagF wd n l).1 r ?_
    refine CmpP.of _ rfl ?_
    (conv => whnf)
    refine ⟨?_, hE4⟩
    simp [isF, h0]
  · have h0 : (bagF wd n l).2 ≠ 0 := by simp only [beq_eq_false_iff_ne, ne_eq] at h; omega
    (conv => whnf)
    refine ⟨?_, hE4⟩
    simp [isF, h0]
end Go.Proofs.YtgeemplpgfiidaaGreatDoor.Mv
/- The spots of a prefix proof: they lie one behind another, and what they are put together to is covered by them. No program in sight. -/
namespace Go.Proofs.YtgeemplpgfiidaaGreatDoor.Mv
open Go

def spotsF (m n : Nat) : List Spot := spanF 0 m ++ spanF m n

theorem good_under {s : Spot} (g : s.Good) : underF s = some (s.i * 2 ^ s.h, (s.i + 1) * 2 ^ s.h) := by
  have h1 := g.h
  have h2 : s.i + 1 ≤ 2 ^ 62 / 2 ^ s.h := (Nat.le_div_iff_mul_le (Nat.two_pow_pos _)).2 g
  have h3 : placeF s = some (nodesF ((s.i + 1) * 2 ^ s.h - 1) + s.h) := by
    unfold placeF
    rw [if_neg]
    rintro (h | h)
    · omega
    · exact absurd (Nat.lt_of_lt_of_le (Nat.lt_succ_self s.i) h2) (Nat.not_lt.2 h)
  unfold underF
  rw [h3]
  rfl
theorem span_under {a b : Nat} (h : a < b) (hb : b ≤ 4611686018427387904) : underF ⟨spanH a b, a / 2 ^ spanH a b⟩ = some (a, a + 2 ^ spanH a b) := by
  have hg := span_good b hb _ a rfl ⟨spanH a b, a / 2 ^ spanH a b⟩ (by rw [spanF_cons h]; simp)
  rw [good_under hg]
  have hdv : 2 ^ spanH a b ∣ a := Nat.dvd_trans (Nat.pow_dvd_pow 2 (Nat.min_le_left _ _)) (low_dvd a)
  simp only [Nat.add_mul, Nat.div_mul_cancel hdv, Nat.one_mul]
theorem overAux_span (b : Nat) (hb : b ≤ 4611686018427387904) : ∀ d a, b - a = d → a ≤ b → ∀ i x r, ∃ i' x', overAux i x a (spanF a b ++ r) = overAux i' x' b r := by
  intro d
  induction d using Nat.strongRecOn with
  | _ d ih =>
    intro a hd hab i x r
    by_cases h : a < b
    · have hst := spanH_le h
      have hp := Nat.two_pow_pos (spanH a b)
      rw [spanF_cons h, List.cons_append, overAux, span_under h hb]
      simp only
      rw [if_neg (fun h => h.2 rfl)]
      exact ih _ (by omega) _ rfl hst _ _ r
    · have : a = b := by omega
      subst this
      rw [spanF_nil h]
      exact ⟨i, x, rfl⟩
theorem spots_over {m n : Nat} (hm : m ≤ n) (hn : n ≤ 4611686018427387904) : spotsF m n = [] ∨ (overF (spotsF m n)).isSome = true := by
  by_cases h : spotsF m n = []
  · exact .inl h
  · right
    rw [overF, if_neg h]
    obtain ⟨i, x, h1⟩ := overAux_span m (by omega) _ 0 rfl (by omega) 0 0 (spanF m n)
    obtain ⟨j, y, h2⟩ := overAux_span n hn _ m rfl hm i x []
    rw [List.append_nil] at h2
    unfold spotsF
    rw [h1, h2]
    rfl
theorem spots_good {m n : Nat} (hm : m ≤ n) (hn : n ≤ 4611686018427387904) : ∀ s ∈ spotsF m n, s.Good := by
  intro s hs
  rcases List.mem_append.1 hs with h | h
  · exact span_good m (by omega) _ 0 rfl s h
  · exact span_good n hn _ m rfl s h
theorem spots_len (m n : Nat) (hm : m ≤ n) (hn : n ≤ 4611686018427387904) : (placesF m n).1.length = (spotsF m n).length ∧ (spotsF m n).length ≤ 256 ∧ (placesF m n).2 = 0 := by
  have h1 := peaks_len m (by omega)
  have h2 := span_zero m (by omega)
  have h3 := span_le 0 m (by omega)
  have h4 := span_le m n hn
  unfold placesF spotsF
  rw [if_neg (by omega)]
  simp
  omega

/-! What is known -/
def kF (s : List Spot) (l : List H) : Kn := (s.zip l).foldl (fun K p => setA p.1 p.2 K) []
theorem kF_take {s : List Spot} {l : List H} {i : Nat} (h1 : i < s.length) (h2 : i < l.length) : kF (s.take (i + 1)) (l.take (i + 1)) = setA s[i] l[i] (kF (s.take i) (l.take i)) := by
  unfold kF
  rw [List.take_succ_eq_append_getElem h1, List.take_succ_eq_append_getElem h2, List.zip_append (by simp; omega), List.foldl_append]
  rfl
theorem foldl_set_some : ∀ (L : List (Spot × H)) (K : Kn) (s : Spot), ((getA s K).isSome = true ∨ s ∈ L.map (·.1)) → (getA s (L.foldl (fun K p => setA p.1 p.2 K) K)).isSome = true
  | [], K, s, h => by simpa using h
  | p :: r, K, s, h => by
    simp only [List.foldl_cons]
    refine foldl_set_some r _ s ?_
    rw [getA_set]
    by_cases hs : s = p.1
    · left; simp [hs]
    · rw [if_neg hs]
      rcases h with h | h
      · exact .inl h
      · simp only [List.map_cons, List.mem_cons] at h
        exact .inr (h.resolve_left hs)
theorem kF_some {s : List Spot} {l : List H} (h : s.length = l.length) {x : Spot} (hx : x ∈ s) : ∃ y, getA x (kF s l) = some y := by
  have := foldl_set_some (s.zip l) [] x (.inr (by
    rw [List.map_fst_zip (by omega)]
    exact hx))
  exact Option.isSome_iff_exists.1 this

theorem lft_up {a b : Spot} (h : sib a b) : lft (up a) = a := by
  obtain ⟨h1, h2, h3⟩ := h
  cases a
  simp [lft, up] at *
  omega
theorem rgt_up {a b : Spot} (h : sib a b) : rgt (up a) = b := by
  obtain ⟨h1, h2, h3⟩ := h
  cases a
  cases b
  simp [rgt, up] at *
  omega
theorem fuse_cov {K : Kn} : ∀ (l : List Spot), (∀ x ∈ l, Cov K x) → ∀ x ∈ fuse l, Cov K x
  | [], _ => by simp [fuse]
  | [a], h => by simpa [fuse] using h
  | b :: a :: r, hg => by
    by_cases h : sib a b
    · rw [fuse_step h]
      refine fuse_cov (up a :: r) ?_
      intro x hx
      rcases List.mem_cons.1 hx with rfl | hx
      · refine .kids (by simp [up]) ?_ ?_
        · rw [lft_up h]; exact hg a (by simp)
        · rw [rgt_up h]; exact hg b (by simp)
      · exact hg x (by simp [hx])
    · rw [fuse_stop h]; exact hg
termination_by l => l.length
theorem putF_cov {K : Kn} {l : List Spot} {s : Spot} (h : ∀ x ∈ s :: l, Cov K x) : ∀ x ∈ putF l s, Cov K x := by
  intro x hx
  refine fuse_cov (s :: l.reverse) (fun y hy => h y ?_) x (by simpa [putF] using hx)
  simpa using hy
theorem merge_cov {K : Kn} : ∀ (m l : List Spot), (∀ x ∈ m, Cov K x) → (∀ x ∈ l, Cov K x) → ∀ x ∈ l.foldl putF m, Cov K x
  | m, [], hm, _ => by simpa using hm
  | m, s :: r, hm, hl => by
    simp only [List.foldl_cons]
    refine merge_cov (putF m s) r (putF_cov ?_) (fun x hx => hl x (by simp [hx]))
    intro x hx
    rcases List.mem_cons.1 hx with rfl | hx
    · exact hl _ (by simp)
    · exact hm x hx
theorem cov_merge {s : List Spot} {l : List H} (h : s.length = l.length) : ∀ x ∈ mergeF s, Cov (kF s l) x := by
  refine merge_cov [] s (by simp) ?_
  intro x hx
  obtain ⟨y, hy⟩ := kF_some h hx
  exact .known hy
end Go.Proofs.YtgeemplpgfiidaaGreatDoor.Mv
/- verify.Reach, verify.Prefix. -/
namespace Go.Proofs.YtgeemplpgfiidaaGreatDoor.Mv
open Go Go.RowKit Go.Proofs

theorem DoP.knUpd {w : World} {b : Nat} {l : Kn} {s : Spot} {x : H} {k : Value → World → Prop} (hK : KnAt w b l) (hk : ∀ w', KnAt w' b (setA s x l) → Upd b w w' → k undef w') :
    DoP Tryz.prog w (Instr.mapUpdate 161 (.map (some b)) (Spot.val s) (H.val x)) k := by
  refine DoP.mapUpdate keySpot Tryz.underlying161 hK s ?_
  intro w' hK' hU
  refine hk w' ?_ hU
  unfold KnAt ents
  rw [← setA_map H.val s x l]
  exact hK'
theorem KnAt.ext {w w' : World} {b : Nat} {l : Kn} (h : KnAt w b l) (e : Ext w w') : KnAt w' b l := MapAt.ext h e
theorem KnAt.upd {w w' : World} {b c : Nat} {l : Kn} (h : KnAt w b l) (e : Upd c w w') (hn : b ≠ c) : KnAt w' b l := MapAt.upd h e hn
theorem KnAt.below {B : Nat} {w w' : World} {b : Nat} {l : Kn} (h : KnAt w b l) (e : Below B w w') (hn : b < B) : KnAt w' b l := MapAt.below h e hn

def reachX (m : Nat) (l : List H) : List H := l.take (spanF 0 m).length
def reachY (wd : Int) (m n : Nat) (l : List H) : List H := (mergeF (spotsF m n)).map (valS wd (kF (spotsF m n) l))

theorem encE_zero {m n k : Nat} (h : encE m n k = 0) : m ≤ n ∧ n ≤ 4611686018427387904 ∧ k = (spotsF m n).length := by
  unfold encE at h
  have hp : (placesF m n).2 = 0 := by
    by_cases h0 : (placesF m n).2 = 0
    · exact h0
    · rw [if_pos h0] at h; omega
  rw [if_neg (by omega)] at h
  have hmn : ¬ (4611686018427387904 < n ∨ n < m) := by
    intro hb
    rw [placesF, if_pos hb] at hp
    simp at hp
  have := spots_len m n (by omega) (by omega)
  split at h
  · omega
  · omega

theorem reach_ok (wd : Int) (m n : Nat) (v : Value) (l : List H) (hm : m < 18446744073709551616) (hn : n < 18446744073709551616) (hl : l.length < 1048576) (w : World) (hg : Glob w) (hv : Seq codHash w v l) :
    Does Tryz.prog 39 [.int .i64 wd, prefV m n v] w (fun r w' => ∃ x y, r = .tuple #[x, y, .int .i64 (encE m n l.length)] ∧
      Seq codHash w' x (if encE m n l.length = 0 then reachX m l else []) ∧ Seq codHash w' y (if encE m n l.length = 0 then reachY wd m n l else []) ∧ Ext w w' ∧ (∀ b, inBlock x b → w.heap.size ≤ b) ∧ (∀ b, inBlock y b → w.heap.size ≤ b)) := by
  have hw3 := hg.lt
  (refine DoesX.of_vc tyOk Tryz.func39 rfl ⟨rfl, rfl⟩ rfl ?_; (conv => whnf))
  refine RunP.box ?_
  intro b3 w1 hb3 hO3 hE1
  have hs1 := hE1.size
  have hO3 : Own w1 b3 (prefC m n v) := hO3
  (conv => whnf)
  refine GetP.lds tfPrefix (cs := prefC m n v) rfl hO3.cells ?_
  (conv => whnf)
  refine CallP.does (encodePrefix_ok m n v l hm hn hl w1 (hg.ext hE1) (hv.ext hE1)) ?_
  rintro r w2 ⟨u, rfl, hGu, hE2⟩
  have hs2 := hE2.size
  have hE2 := hE1.trans hE2
  have hO3 := hO3.ext (show Ext w1 w2 by assumption)
  (conv => whnf)
  refine CmpP.split (fun h => ?_) (fun h => ?_)
  · have hne : encE m n l.length ≠ 0 := by intro h0; simp [h0] at h
    (conv => whnf)
    rw [if_neg hne, if_neg hne]
    exact ⟨_, _, rfl, Seq.nil _ _, Seq.nil _ _, hE2, (by rintro b ⟨_, _, _, h⟩; cases h), (by rintro b ⟨_, _, _, h⟩; cases h)⟩
  have h0 : encE m n l.length = 0 := by
    simp only [bne_eq_false_iff_eq] at h
    omega
  rw [h0, if_pos rfl, if_pos rfl]
  obtain ⟨hmn, hn62, hlen⟩ := encE_zero h0
  obtain ⟨hpl, hsl, hp0⟩ := spots_len m n hmn hn62
  have hsg := spots_good hmn hn62
  (conv => whnf)
  refine GetP.ld tfU64 (v := .int .u64 m) (by rw [hO3.cell]; rfl) ?_
  (conv => whnf)
  refine CallP.does (span_ok 0 m (by omega) (by omega) w2 (hg.ext hE2)) ?_
  rintro va w3 ⟨hGa, hB3⟩
  have hs3 := hB3.size
  have hO3 := hO3.ext hB3
  have hE3 := hE2.trans hB3
  (conv => whnf)
  refine GetP.ld tfU64 (v := .int .u64 m) (by rw [hO3.cell]; rfl) ?_
  (conv => whnf)
  refine GetP.ld tfU64 (v := .int .u64 n) (by rw [hO3.cell]; rfl) ?_
  (conv => whnf)
  refine CallP.does (span_ok m n (by omega) (by omega) w3 (hg.ext hE3)) ?_
  rintro vb w4 ⟨hGb, hB4⟩
  have hs4 := hB4.size
  have hO3 := hO3.ext hB4
  have hE4 := hE3.trans hB4
  have hGa := hGa.ext hB4
  (conv => whnf)
  refine RunP.slice (C := codSV) (l := [⟨va, hGa.one⟩, ⟨vb, hGb.one⟩]) (vals := [va, vb]) Tryz.runUnderlying222 Tryz.sizeOf155 Tryz.zeroValue155 rfl rfl (by simp [hGa.cell1, hGb.cell1]; rfl) (show 2 * 1 ≤ 16777216 by decide) ?_
  intro b8 w5 hb8 hO8 hE5 hq8 _
  have hs5 := hE5.size
  (conv => whnf)
  have hp : PartsG codSpot w5 [⟨va, hGa.one⟩, ⟨vb, hGb.one⟩] [spanF 0 m, spanF m n] := by
    refine ⟨rfl, fun i v l hv hl => ?_⟩
    match i, hv, hl with
    | 0, hv, hl => cases hv; cases hl; exact hGa.seq.ext hE5
    | 1, hv, hl => cases hv; cases hl; exact hGb.seq.ext hE5
    | _ + 2, hv, hl => cases hv
  have hfl : ([spanF 0 m, spanF m n] : List (List Spot)).flatten = spotsF m n := by simp [spotsF]
  refine CallP.does (concatS_ok _ _ _ w5 hq8 hp (by rw [hfl]; omega) (by simp)) ?_
  rintro vs w6 ⟨hGs, hE6⟩
  rw [hfl] at hGs
  have hs6 := hE6.size
  have hO3 := (hO3.ext hE5).ext hE6
  have hGa := (hGa.ext hE5).ext hE6
  have hE6 := (hE4.trans hE5).trans hE6
  have hb36 := hO3.lt
  have hva6 : ∀ x, inBlock va x → x < w6.heap.size := fun x h => (hGa.block h).2
  have hvs6 : ∀ x, inBlock vs x → x < w6.heap.size := fun x h => (hGs.block h).2
  (conv => whnf)
  refine RunP.makeMap (val := Spot.val) ?_
  intro bm w7 hbm hM hE7
  have hs7 := hE7.size
  have hO3 := hO3.ext hE7
  have hGa := hGa.ext hE7
  have hGs := hGs.ext hE7
  have hE7 := hE6.trans hE7
  (conv => whnf)
  refine GetP.lenS Tryz.runUnderlying155 hGs.seq ?_
  (conv => whnf)
  refine loop_only tyOk (σ := Nat) (fun i => [(0, .int .i64 wd), (3, pt b3), (9, va), (10, vs), (11, .map (some bm)), (39, vs), (40, .int .i64 (spotsF m n).length), (41, .int .i64 i)])
    (fun i w' => KnAt w' bm (kF ((spotsF m n).take i) (l.take i)) ∧ Own w' b3 (prefC m n v) ∧ Seq codSpot w' va (spanF 0 m) ∧ Seq codSpot w' vs (spotsF m n) ∧ Ext w w' ∧ w7.heap.size ≤ w'.heap.size ∧ i ≤ (spotsF m n).length) (fun i => (spotsF m n).length - i) 0
    (by repeat (first | exact trivial | refine ⟨rfl, ?_⟩)) ⟨hM, hO3, hGa.seq, hGs.seq, hE7, Nat.le_refl _, by omega⟩ ?_
  have hmlt := MapAt.lt hM
  have hb3m : b3 < bm := by omega
  have hvab : ¬ inBlock va bm := fun h => by have := hva6 bm h; omega
  have hvsb : ¬ inBlock vs bm := fun h => by have := hvs6 bm h; omega
  have hvb : ∀ x, inBlock v x → x < w.heap.size := fun x h => hv.lt h
  clear hM hO3 hGa hGs hE7 hO8 hq8 hp
  rintro i w8 ⟨hK, hO3, hSa, hSs, hE8, h78, hi⟩
  have hs8 := hE8.size
  (conv => whnf)
  refine CmpP.split (fun h => ?_) (fun h => ?_)
  · have hlt : i < (spotsF m n).length := by simp only [decide_eq_true_eq] at h; omega
    have hltl : i < l.length := by omega
    (conv => whnf)
    refine GetP.idxS Tryz.runUnderlying155 Tryz.sizeOf159 hSs (by omega) (by simpa using hlt) ?_
    intro eb eo hc
    (conv => whnf)
    refine GetP.lds tfSpot (cs := Spot.cells (spotsF m n)[i]) rfl hc ?_
    (conv => whnf)
    refine RunP.new (z := Spot.val ⟨0, 0⟩) Tryz.zeroValue159 ?_
    intro b13 w9 hb13 hO13 hE9
    have hs9 := hE9.size
    (conv => whnf)
    refine DoP.sts0 tfSpot hO13 rfl rfl (codSpot.one (spotsF m n)[i]) ?_
    intro w10 hO13 hU10
    have hs10 := hU10.size
    have hE10 : Ext w8 w10 := hE9.upd hU10 (by omega)
    (conv => whnf)
    refine draw_still tyOk mixed (.q 0 (.q 1 (.q 2 (.q 3 (.q 4 (.q 5 (.q 6 (.e [(7, .done)])))))))) (by kernel_rfl) ?_
    intro w11 hB11 hs11
    have hE11 := hE10.trans hB11
    (conv => whnf)
    refine GetP.lds tfSpot (cs := Spot.cells (spotsF m n)[i]) rfl (hO13.ext hB11).cells ?_
    (conv => whnf)
    refine GetP.ld tfHashes (v := v) (by rw [(hO3.ext hE11).cell]; rfl) ?_
    (conv => whnf)
    refine GetP.idxS Tryz.runUnderlying44 Tryz.sizeOf24 (hv.ext (hE8.trans hE11)) (by omega) (by simpa using hltl) ?_
    intro eb2 eo2 hc2
    (conv => whnf)
    refine GetP.lds tfHash (cs := H.cells l[i]) (H.len _) hc2 ?_
    (conv => whnf)
    refine DoP.knUpd (hK.ext hE11) ?_
    intro w12 hK12 hU12
    have hs12 := hU12.size
    (conv => whnf)
    (refine BarP.yes (by decide +kernel) ?_; (conv => whnf))
    (conv => whnf)
    refine NumP.to ((i + 1 : Nat) : Int) (by rw [wrap_i64]; omega) ?_
    (conv => whnf)
    refine ⟨i + 1, (by repeat (first | exact trivial | refine ⟨rfl, ?_⟩)), ⟨?_, (hO3.ext hE11).upd hU12 (by omega), (hSa.ext hE11).upd hU12 hvab, (hSs.ext hE11).upd hU12 hvsb, (hE8.trans hE11).upd hU12 (by omega), by omega, by omega⟩, by omega⟩
    rw [kF_take hlt hltl]
    exact hK12
  have hge : i = (spotsF m n).length := by simp only [decide_eq_false_iff_not] at h; omega
  subst hge
  rw [List.take_length, ← hlen, List.take_length] at hK
  have hcov := cov_merge (s := spotsF m n) (l := l) hlen.symm
  have hmg : ∀ x ∈ mergeF (spotsF m n), x.Good := merge_good [] _ (by simp) hsg
  have hml : (mergeF (spotsF m n)).length ≤ (spotsF m n).length := by have := merge_len [] (spotsF m n); simpa [mergeF] using this
  generalize hKK : kF (spotsF m n) l = K at hK hcov
  (conv => whnf)
  refine CallP.does (merge_ok vs (spotsF m n) w8 hSs hsg (by omega) (spots_over hmn hn62)) ?_
  rintro r w9 ⟨vm, rfl, hGm, hE9⟩
  have hs9 := hE9.size
  have hK := hK.ext hE9
  have hO3 := hO3.ext hE9
  have hSa := hSa.ext hE9
  have hE9 := hE8.trans hE9
  (conv => whnf)
  refine GetP.lenS Tryz.runUnderlying155 hGm.seq ?_
  (conv => whnf)
  have hvmb : ¬ inBlock vm bm := fun h => by have := (hGm.block h).1; omega
  have hvm9 : ∀ x, inBlock vm x → x < w9.heap.size := fun x h => (hGm.block h).2
  refine loop_only2 tyOk (fun (i : Nat) (u : Value) => [(0, .int .i64 wd), (3, pt b3), (9, va), (11, .map (some bm)), (16, u), (59, vm), (60, .int .i64 (mergeF (spotsF m n)).length), (61, .int .i64 i)])
    (fun i u w' => (∃ l', Memo wd K l' ∧ KnAt w' bm l') ∧ Own w' b3 (prefC m n v) ∧ Seq codSpot w' va (spanF 0 m) ∧ Seq codSpot w' vm (mergeF (spotsF m n)) ∧ Grow codHash 24 w9.heap.size w' u (((mergeF (spotsF m n)).take i).map (valS wd K)) ∧ Ext w w' ∧ w9.heap.size ≤ w'.heap.size ∧ i ≤ (mergeF (spotsF m n)).length) (fun i _ => (mergeF (spotsF m n)).length - i) 0 (.slice none 0 0)
    (by repeat (first | exact trivial | refine ⟨rfl, ?_⟩)) ⟨⟨K, Memo.refl _ _, hK⟩, hO3, hSa, hGm.seq, Grow.nil _ _ _ _, hE9, Nat.le_refl _, by omega⟩ ?_
  clear hK hO3 hSa hGm hE9 hSs
  rintro i u w10 ⟨⟨l', hM, hK⟩, hO3, hSa, hSm, hG, hE, h910, hi⟩
  have hs10 := hE.size
  (conv => whnf)
  refine CmpP.split (fun h => ?_) (fun h => ?_)
  · have hlt : i < (mergeF (spotsF m n)).length := by simp only [decide_eq_true_eq] at h; omega
    have hgi := hmg _ (List.getElem_mem hlt)
    have hci := hcov _ (List.getElem_mem hlt)
    generalize hsi : (mergeF (spotsF m n))[i] = s at hgi hci
    (conv => whnf)
    refine GetP.idxS Tryz.runUnderlying155 Tryz.sizeOf159 hSm (by omega) (by simpa using hlt) ?_
    intro eb eo hc
    have hc : CellsAt w10 eb eo (Spot.cells s) := by
      simp only [Int.toNat_natCast, hsi] at hc
      exact hc
    (conv => whnf)
    refine GetP.lds tfSpot (cs := Spot.cells s) rfl hc ?_
    (conv => whnf)
    refine RunP.new (z := Spot.val ⟨0, 0⟩) Tryz.zeroValue159 ?_
    intro b18 w11 hb18 hO18 hE11
    have hs11 := hE11.size
    (conv => whnf)
    refine DoP.sts0 tfSpot hO18 rfl rfl (codSpot.one s) ?_
    intro w12 hO18 hU12
    have hs12 := hU12.size
    have hE12 : Ext w10 w12 := hE11.upd hU12 (by omega)
    (conv => whnf)
    refine GetP.lds tfSpot (cs := Spot.cells s) rfl hO18.cells ?_
    (conv => whnf)
    refine CallP.does (at_ok wd K bm hci hgi l' w12 (hg.ext (hE.trans hE12)).toGlobH (by omega) hM (hK.ext hE12)) ?_
    rintro r w13 ⟨rfl, ⟨l2, hM2, hK2⟩, hU13⟩
    have hs13 := hU13.size
    (conv => whnf)
    refine RunP.slice1 (C := codHash) (a := valS wd K s) Tryz.runUnderlying44 Tryz.sizeOf24 Tryz.zeroValue24 rfl rfl (by decide) ?_
    intro b19 w14 hb19 hO19 hE14 hq14
    have hs14 := hE14.size
    have hUU : Upd bm w w14 := ((Upd.of_ext (hE.trans hE12)).trans hU13).trans (Upd.of_ext hE14)
    have hG14 := ((hG.ext hE12).upd hU13 (hG.inB (.inr (by omega)))).ext hE14
    have hll : (((mergeF (spotsF m n)).take i).map (valS wd K)).length ≤ 256 := by simp; omega
    (conv => whnf)
    refine RunP.append elHash hG14 hq14 (by simp only [maxLen, List.length_cons, List.length_nil]; omega) (by simp only [List.length_cons, List.length_nil]; omega) (by omega) ?_
    intro u' w15 hG15 hgr
    have hB15 := hG14.grown_below hgr (by omega)
    have hs15 := hgr.size
    (conv => whnf)
    refine NumP.to ((i + 1 : Nat) : Int) (by rw [wrap_i64]; omega) ?_
    (conv => whnf)
    refine ⟨i + 1, u', (by repeat (first | exact trivial | refine ⟨rfl, ?_⟩)), ⟨⟨l2, hM2, (hK2.ext hE14).below hB15 (by omega)⟩, ((((hO3.ext hE12).upd hU13 (by omega)).ext hE14).below hB15 (by omega)), ?_, ?_, ?_, ?_, by omega, by omega⟩, by omega⟩
    · exact (((hSa.ext hE12).upd hU13 hvab).ext hE14).kept hG14 hgr (fun x hx hx' => by have := hva6 x hx; have := (hG14.block hx').1; omega)
    · exact (((hSm.ext hE12).upd hU13 hvmb).ext hE14).kept hG14 hgr (fun x hx hx' => by have := hvm9 x hx; have := (hG14.block hx').1; omega)
    · rw [List.take_succ_eq_append_getElem hlt, hsi, List.map_append]
      exact hG15
    · have hU0 : Below w.heap.size w w14 := hUU.below (by omega) (Nat.le_refl _)
      exact Below.trans hU0 (Below.mono hB15 (by omega))
  have hge : i = (mergeF (spotsF m n)).length := by simp only [decide_eq_false_iff_not] at h; omega
  subst hge
  rw [List.take_length] at hG
  (conv => whnf)
  refine GetP.ld tfHashes (v := v) (by rw [hO3.cell]; rfl) ?_
  (conv => whnf)
  refine GetP.lenS Tryz.runUnderlying155 hSa ?_
  (conv => whnf)
  have hal : (spanF 0 m).length ≤ l.length := by rw [hlen]; simp [spotsF]
  refine GetP.subS (hv.ext hE) Tryz.runUnderlying44 Tryz.sizeOf24 0 (spanF 0 m).length (.inl ⟨rfl, rfl⟩) (.inr ⟨_, rfl⟩) (Nat.zero_le _) hal ?_
  intro v' hv' _
  rw [List.drop_zero] at hv'
  (conv => whnf)
  refine CallP.does (cloneH_ok v' _ w10 hv' (by simp; omega)) ?_
  rintro r w11 ⟨hG11, hE11⟩
  (conv => whnf)
  refine ⟨r, u, rfl, hG11.seq, ?_, hE.trans hE11, fun b hb => by have := (hG11.block hb).1; omega, fun b hb => by have := (hG.block hb).1; omega⟩
  rw [reachY, hKK]
  exact (hG.ext hE11).seq
end Go.Proofs.YtgeemplpgfiidaaGreatDoor.Mv
/- verify.Prefix. -/
namespace Go.Proofs.YtgeemplpgfiidaaGreatDoor.Mv
open Go Go.RowKit Go.Proofs

def outX (m n : Nat) (l : List H) : List H := if encE m n l.length = 0 then reachX m l else []
def outY (wd : Int) (m n : Nat) (l : List H) : List H := if encE m n l.length = 0 then reachY wd m n l else []
def prefixE (wd : Int) (m : Nat) (a : H) (n : Nat) (r : H) (l : List UInt8) : Nat :=
  if decE l ≠ 0 then decE l else if decM l ≠ m ∨ decN l ≠ n then 30 else if isF wd m (outX m n (decL l)) a = true ∧ isF wd n (outY wd m n (decL l)) r = true then 0 else 80

theorem decN_lt (l : List UInt8) : decM l < 18446744073709551616 ∧ decN l < 18446744073709551616 := by
  unfold decM decN
  have h1 : (decA l).1 < 18446744073709551616 := numF_lt (kindF 80 (l, 0))
  have h2 : (decB l).1 < 18446744073709551616 := numF_lt (decA l).2
  split <;> omega
theorem decL_len (l : List UInt8) : (decL l).length ≤ 200 := by
  unfold decL nodesR
  split
  · simp
  · split
    · simp
    · rw [hashesOf_len]; exact places_len _ _
theorem mergeF_len (s : List Spot) : (mergeF s).length ≤ s.length := by have := merge_len [] s; simpa [mergeF] using this
theorem outY_len (wd : Int) (m n : Nat) (l : List H) (hl : l.length ≤ 200) : (outY wd m n l).length ≤ 256 := by
  unfold outY reachY
  split
  · rename_i h
    obtain ⟨h1, h2, h3⟩ := encE_zero h
    have := mergeF_len (spotsF m n)
    simp
    omega
  · simp
theorem outX_len (m n : Nat) (l : List H) (hl : l.length ≤ 200) : (outX m n l).length ≤ 256 := by
  unfold outX reachX
  split
  · simp; omega
  · simp

theorem prefix_ok (wd : Int) (m : Nat) (a : H) (n : Nat) (r : H) (v : Value) (l : List UInt8) (hm : m < 18446744073709551616) (hn : n < 18446744073709551616) (w : World) (hg : Glob w) (hv : Seq codByte w v l) (hl : l.length < 1048576) :
    Does Tryz.prog 8 [.int .i64 wd, .int .u64 m, H.val a, .int .u64 n, H.val r, v] w (fun x w' => x = .int .i64 (prefixE wd m a n r l) ∧ Ext w w') := by
  (refine DoesX.of_vc tyOk Tryz.func8 rfl ⟨rfl, rfl⟩ rfl ?_; (conv => whnf))
  refine RunP.box ?_
  intro b8 w1 hb8 hO8 hE1
  have hO8 : Own w1 b8 (H.cells a) := by simpa [H.val, Value.cells] using hO8
  (conv => whnf)
  refine RunP.box ?_
  intro b10 w2 hb10 hO10 hE2
  have hO10 : Own w2 b10 (H.cells r) := by simpa [H.val, Value.cells] using hO10
  have hO8 := hO8.ext hE2
  have hE2 := hE1.trans hE2
  have hs2 := hE2.size
  (conv => whnf)
  refine CallP.does (decodePrefix_ok v l w2 (hg.ext hE2) (hv.ext hE2) hl) ?_
  rintro x w3 ⟨u, rfl, hGu, hE3⟩
  have hs3 := hE3.size
  have hO8 := hO8.ext hE3
  have hO10 := hO10.ext hE3
  have hE3 := hE2.trans hE3
  (conv => whnf)
  refine RunP.new (z := prefV 0 0 (.slice none 0 0)) Tryz.zeroValue55 ?_
  intro b13 w4 hb13 hO13 hE4
  have hs4 := hE4.size
  have h8 : b8 < b13 := by have := hO8.lt; omega
  have h10 : b10 < b13 := by have := hO10.lt; omega
  have hO13 : Own w4 b13 (prefC 0 0 (.slice none 0 0)) := hO13
  (conv => whnf)
  refine DoP.sts0 tfPrefix (vs := prefC (decM l) (decN l) u) hO13 rfl rfl (by intro x hx; simp [prefC] at hx; rcases hx with rfl | rfl | rfl <;> first | rfl | exact hGu.one) ?_
  intro w5 hO13 hU5
  have hs5 := hU5.size
  have hO8 := (hO8.ext hE4).upd hU5 (by omega)
  have hO10 := (hO10.ext hE4).upd hU5 (by omega)
  have hGu := (hGu.ext hE4).upd hU5 (fun h => by have := (hGu.block h).2; omega)
  have hE5 : Ext w w5 := (hE3.trans hE4).upd hU5 (by omega)
  obtain ⟨hdm, hdn⟩ := decN_lt l
  have hdl := decL_len l
  (conv => whnf)
  refine CmpP.split (fun h => ?_) (fun h => ?_)
  · have hne : decE l ≠ 0 := by intro h0; simp [h0] at h
    (conv => whnf)
    refine ⟨?_, hE5⟩
    rw [prefixE, if_pos hne]
  have h0 : ¬ decE l ≠ 0 := by
    simp only [bne_eq_false_iff_eq] at h
    omega
  (conv => whnf)
  refine GetP.ld tfU64 (v := .int .u64 (decM l)) (by rw [hO13.cell]; rfl) ?_
  (conv => whnf)
  refine CmpP.split (fun h => ?_) (fun h => ?_)
  · have hne : decM l ≠ m := by intro e; simp [e] at h
    (conv => whnf)
    refine ⟨?_, hE5⟩
    rw [prefixE, if_neg h0, if_pos (.inl hne)]
    rfl
  have hme : decM l = m := by
    simp only [bne_eq_false_iff_eq] at h
    exact Int.ofNat_inj.1 h
  (conv => whnf)
  refine GetP.ld tfU64 (v := .int .u64 (decN l)) (by rw [hO13.cell]; rfl) ?_
  (conv => whnf)
  refine CmpP.split (fun h => ?_) (fun h => ?_)
  · have hne : decN l ≠ n := by intro e; simp [e] at h
    (conv => whnf)
    refine ⟨?_, hE5⟩
    rw [prefixE, if_neg h0, if_pos (.inr hne)]
    rfl
  have hne : decN l = n := by
    simp only [bne_eq_false_iff_eq] at h
    exact Int.ofNat_inj.1 h
  have hno : ¬ (decM l ≠ m ∨ decN l ≠ n) := by omega
  rw [hme, hne] at hO13
  (conv => whnf)
  refine GetP.lds tfPrefix (cs := prefC m n u) rfl hO13.cells ?_
  (conv => whnf)
  refine CallP.does (reach_ok wd m n u (decL l) hm hn (by omega) w5 (hg.ext hE5) hGu.seq) ?_
  rintro r' w6 ⟨x, y, rfl, hX, hY, hE6, _, _⟩
  have hs6 := hE6.size
  have hO8 := hO8.ext hE6
  have hO10 := hO10.ext hE6
  have hE6 := hE5.trans hE6
  have hX : Seq codHash w6 x (outX m n (decL l)) := hX
  have hY : Seq codHash w6 y (outY wd m n (decL l)) := hY
  have hxl := outX_len m n (decL l) hdl
  have hyl := outY_len wd m n (decL l) hdl
  (conv => whnf)
  refine GetP.lds tfHash (H.len a) hO8.cells ?_
  (conv => whnf)
  refine CallP.does (is_ok wd m x _ a hm w6 (hg.ext hE6).toGlobH hX (by omega)) ?_
  rintro r' w7 ⟨rfl, hE7⟩
  have hO10 := hO10.ext hE7
  have hE7' := hE6.trans hE7
  cases hi : isF wd m (outX m n (decL l)) a with
  | false =>
    (conv => whnf)
    refine ⟨?_, hE7'⟩
    rw [prefixE, if_neg h0, if_neg hno, if_neg (by simp [hi])]
    rfl
  | true =>
    (conv => whnf)
    refine GetP.lds tfHash (H.len r) hO10.cells ?_
    (conv => whnf)
    refine CallP.does (is_ok wd n y _ r hn w7 (hg.ext hE7').toGlobH (hY.ext hE7) (by omega)) ?_
    rintro r' w8 ⟨rfl, hE8⟩
    cases hj : isF wd n (outY wd m n (decL l)) r with
    | false =>
      (conv => whnf)
      refine ⟨?_, hE7'.trans hE8⟩
      rw [prefixE, if_neg h0, if_neg hno, if_neg (by simp [hj])]
      rfl
    | true =>
      (conv => whnf)
      refine ⟨?_, hE7'.trans hE8⟩
      rw [prefixE, if_neg h0, if_neg hno, if_pos ⟨hi, hj⟩]
      rfl
end Go.Proofs.YtgeemplpgfiidaaGreatDoor.Mv
