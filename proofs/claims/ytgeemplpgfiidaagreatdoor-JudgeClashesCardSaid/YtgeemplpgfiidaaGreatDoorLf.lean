/- num.Short, num.Long, mmr.Bag, proof.PrefixPlaces, proof.write. -/
import Derived.Test.YtgeemplpgfiidaaGreatDoorLe
namespace Go.Proofs.YtgeemplpgfiidaaGreatDoor.Mv
open Go Go.RowKit Go.Proofs

/-! Short -/
def shortF (x : Nat) : List UInt8 := if h : 127 < x then UInt8.ofNat (x % 128 + 128) :: shortF (x / 128) else [UInt8.ofNat x]
termination_by x
decreasing_by omega
theorem shortF_more {x : Nat} (h : 127 < x) : shortF x = UInt8.ofNat (x % 128 + 128) :: shortF (x / 128) := by rw [shortF, dif_pos h]
theorem shortF_last {x : Nat} (h : ¬ 127 < x) : shortF x = [UInt8.ofNat x] := by rw [shortF, dif_neg h]
theorem shortF_len : ∀ k x, x < 128 ^ (k + 1) → (shortF x).length ≤ k + 1
  | 0, x, h => by rw [shortF_last (by simp at h; omega)]; simp
  | k + 1, x, h => by
    by_cases hx : 127 < x
    · rw [shortF_more hx]
      have := shortF_len k (x / 128) (by rw [Nat.div_lt_iff_lt_mul (by omega)]; rw [Nat.pow_succ] at h; exact h)
      simp
      omega
    · rw [shortF_last hx]; simp
theorem or128 : ∀ b : Nat, b < 256 → bitsV .or .u8 ((b : Nat) : Int) 128 = ((b % 128 + 128 : Nat) : Int) := by
  have : all256 (fun b : Nat => decide (bitsV .or .u8 ((b : Nat) : Int) 128 = ((b % 128 + 128 : Nat) : Int))) 256 = true := by decide +kernel
  intro b hb
  simpa using all256_spec this b hb
theorem byteV_of (n : Nat) (h : n < 256) : byteV (UInt8.ofNat n) = .int .u8 n := by simp [byteV]; omega

theorem short_ok (x : Nat) (hx : x < 18446744073709551616) (w : World) : Does Tryz.prog 110 [.int .u64 x] w (fun v w' => Grow codByte 5 w.heap.size w' v (shortF x) ∧ Ext w w') := by
  have h9 := shortF_len 9 x (by omega)
  (refine DoesX.of_vc tyOk Tryz.func110 rfl ⟨rfl, rfl⟩ rfl ?_; (conv => whnf))
  refine loop_only3 tyOk (fun (x : Nat) (_ : List UInt8) (v : Value) => [(0, .int .u64 x), (3, v)]) (fun x' l v w' => Grow codByte 5 w.heap.size w' v l ∧ Ext w w' ∧ l ++ shortF x' = shortF x ∧ x' < 18446744073709551616) (fun x _ _ => x) x [] (.slice none 0 0)
    (by repeat (first | exact trivial | refine ⟨rfl, ?_⟩)) ⟨Grow.nil _ _ _ _, Ext.refl _, List.nil_append _, hx⟩ ?_
  rintro x' l v w1 ⟨hG, hE, hl, hx'⟩
  have hs1 := hE.size
  have hll : l.length ≤ 10 := by
    have := congrArg List.length hl
    rw [List.length_append] at this
    omega
  (conv => whnf)
  refine CmpP.split (fun h => ?_) (fun h => ?_)
  · have hm : 127 < x' := by simp only [gt_iff_lt, decide_eq_true_eq] at h; omega
    (conv => whnf)
    refine NumP.to ((x' % 256 : Nat) : Int) (by rw [wrap_u8]; omega) ?_
    (conv => whnf)
    rw [or128 (x' % 256) (Nat.mod_lt _ (by omega)), show x' % 256 % 128 = x' % 128 by omega]
    refine RunP.slice1 (C := codByte) (a := UInt8.ofNat (x' % 128 + 128)) Tryz.runUnderlying25 Tryz.sizeOf5 Tryz.zeroValue5 rfl (by rw [← byteV_of _ (by omega)]; rfl) (by decide) ?_
    intro b5 w2 hb5 hO5 hE2 hq5
    have hs2 := hE2.size
    (conv => whnf)
    refine RunP.append elByte (hG.ext hE2) hq5 (by simp only [maxLen, List.length_cons, List.length_nil]; omega) (by simp only [List.length_cons, List.length_nil]; omega) (by omega) ?_
    intro v' w3 hG3 hgr
    (conv => whnf)
    (refine ReqP.mk (by first | decide | omega | (constructor <;> omega)) ?_; (conv => whnf))
    rw [show shrV .u64 (x' : Int) 7 = ((x' / 2 ^ 7 : Nat) : Int) from shr64 x' 7 hx']
    refine ⟨x' / 2 ^ 7, _, v', (by repeat (first | exact trivial | refine ⟨rfl, ?_⟩)), ⟨hG3, Below.trans (hE.trans hE2) ((hG.ext hE2).grown_below hgr (by omega)), ?_, by omega⟩, by omega⟩
    rw [← hl, shortF_more hm, List.append_assoc]
    rfl
  · have hm : ¬ 127 < x' := by simp only [gt_iff_lt, decide_eq_false_iff_not] at h; omega
    (conv => whnf)
    refine NumP.to ((x' : Nat) : Int) (by rw [wrap_u8]; omega) ?_
    (conv => whnf)
    refine RunP.slice1 (C := codByte) (a := UInt8.ofNat x') Tryz.runUnderlying25 Tryz.sizeOf5 Tryz.zeroValue5 rfl (by rw [← byteV_of _ (by omega)]; rfl) (by decide) ?_
    intro b5 w2 hb5 hO5 hE2 hq5
    have hs2 := hE2.size
    (conv => whnf)
    refine RunP.append elByte (hG.ext hE2) hq5 (by simp only [maxLen, List.length_cons, List.length_nil]; omega) (by simp only [List.length_cons, List.length_nil]; omega) (by omega) ?_
    intro v' w3 hG3 hgr
    (conv => whnf)
    rw [← hl, shortF_last hm]
    exact ⟨hG3, Below.trans (hE.trans hE2) ((hG.ext hE2).grown_below hgr (by omega))⟩

/-! Long -/
def longAux (l : List UInt8) : Nat → Nat → Nat → Nat × Nat × Nat
  | 0, _, _ => (0, 0, 10)
  | k + 1, i, x => if i = l.length then (0, 0, 11) else
    if i = 9 ∧ 1 < (l.getD i 0).toNat then (0, 0, 10) else
    if (l.getD i 0).toNat < 128 then (if 0 < i ∧ (l.getD i 0).toNat = 0 then (0, 0, 12) else (x + (l.getD i 0).toNat % 128 * 2 ^ (7 * i), i + 1, 0))
    else longAux l k (i + 1) (x + (l.getD i 0).toNat % 128 * 2 ^ (7 * i))
def longF (l : List UInt8) : Nat × Nat × Nat := longAux l 10 0 0
def long3 (x : Nat × Nat × Nat) : Value := .tuple #[.int .u64 x.1, .int .i64 x.2.1, .int .i64 x.2.2]

theorem or_top (a b i : Nat) (h : b < 2 ^ i) : b ||| a * 2 ^ i = b + a * 2 ^ i := by
  rw [Nat.or_comm, Nat.mul_comm, ← Nat.two_pow_add_eq_or_of_lt h, Nat.add_comm]

theorem long_ok (v : Value) (l : List UInt8) (w : World) (hv : Seq codByte w v l) (hn : l.length < 1152921504606846976) : Does Tryz.prog 130 [v] w (fun r w' => w' = w ∧ r = long3 (longF l)) := by
  (refine DoesX.of_vc tyOk Tryz.func130 rfl ⟨rfl, rfl⟩ rfl ?_; (conv => whnf))
  refine loop_only3 tyOk (fun (k i x : Nat) => [(0, v), (5, .int .u64 x), (8, .int .i64 i)]) (fun k i x w' => w' = w ∧ longAux l k i x = longF l ∧ i + k = 10 ∧ x < 2 ^ (7 * i) ∧ i ≤ l.length) (fun k _ _ => k) 10 0 0
    (by repeat (first | exact trivial | refine ⟨rfl, ?_⟩)) ⟨rfl, rfl, by omega, by omega, by omega⟩ ?_
  rintro k i x w ⟨rfl, hf, hk, hx, hi⟩
  (conv => whnf)
  refine CmpP.split (fun h => ?_) (fun h => ?_)
  · have hlt : i < 10 := by simp only [decide_eq_true_eq] at h; omega
    obtain ⟨k, rfl⟩ : ∃ m, k = m + 1 := ⟨k - 1, by omega⟩
    rw [longAux] at hf
    (conv => whnf)
    refine GetP.lenS Tryz.runUnderlying25 hv ?_
    (conv => whnf)
    refine CmpP.split (fun h => ?_) (fun h => ?_)
    · have he : i = l.length := by simp only [beq_iff_eq] at h; omega
      rw [if_pos he] at hf
      (conv => whnf)
      refine ⟨rfl, ?_⟩
      rw [← hf]
      rfl
    have hne : i ≠ l.length := by simp only [beq_eq_false_iff_ne, ne_eq] at h; omega
    have hil : i < l.length := by omega
    rw [if_neg hne] at hf
    have hgd : l.getD i 0 = l[i] := by simp [List.getD, List.getElem?_eq_getElem hil]
    rw [hgd] at hf
    have hc8 := l[i].toNat_lt
    (conv => whnf)
    refine GetP.idxS Tryz.runUnderlying25 Tryz.sizeOf5 hv (by omega) (by simpa using hil) ?_
    intro eb eo hc
    (conv => whnf)
    refine GetP.ld tfU8 (v := byteV l[i]) (by have := hc 0 (byteV l[i]) (by rfl); exact this) ?_
    (conv => whnf)
    have hc8' : l[i].toNat < 256 := hc8
    generalize hcc : l[i].toNat = c at hf hc8'
    have hbv : byteV l[i] = .int .u8 c := by simp [byteV, hcc]
    refine NumP.to ((c : Nat) : Int) (by rw [wrap_u64]; omega) ?_
    (conv => whnf)
    have hp9 : i = 9 ∨ i < 9 := by omega
    have hpow : 2 ^ (7 * i) ≤ 2 ^ 63 := Nat.pow_le_pow_right (by omega) (by omega)
    have hstep : 2 ^ (7 * (i + 1)) = 128 * 2 ^ (7 * i) := by rw [show 7 * (i + 1) = 7 * i + 7 by omega, Nat.pow_add]; omega
    have hrest : (¬ (i = 9 ∧ 1 < c) → x + c % 128 * 2 ^ (7 * i) < 18446744073709551616 ∧ c % 128 * 2 ^ (7 * i) < 18446744073709551616) := by
      intro hno
      rcases hp9 with rfl | h9
      · have : c ≤ 1 := by omega
        have : c % 128 * 2 ^ (7 * 9) ≤ 1 * 2 ^ 63 := Nat.mul_le_mul (by omega) (by omega)
        omega
      · have h8 : 2 ^ (7 * i) ≤ 2 ^ 56 := Nat.pow_le_pow_right (by omega) (by omega)
        have : c % 128 * 2 ^ (7 * i) ≤ 127 * 2 ^ 56 := Nat.mul_le_mul (by omega) h8
        omega
    refine CmpP.split (fun h => ?_) (fun h => ?_)
    · have h9 : i = 9 := by simp only [beq_iff_eq] at h; omega
      (conv => whnf)
      refine CmpP.split (fun h => ?_) (fun h => ?_)
      · have h1 : 1 < c := by simp only [gt_iff_lt, decide_eq_true_eq] at h; omega
        rw [if_pos ⟨h9, h1⟩] at hf
        (conv => whnf)
        refine ⟨rfl, ?_⟩
        rw [← hf]
        rfl
      have h1 : ¬ (i = 9 ∧ 1 < c) := by simp only [gt_iff_lt, decide_eq_false_iff_not] at h; omega
      (conv => whnf)
      rw [if_neg h1] at hf
      obtain ⟨hr1, hr2⟩ := hrest h1
      rw [show bitsV .and .u64 ((c : Nat) : Int) 127 = ((c &&& 127 : Nat) : Int) from and64 c 127 (by omega) (by omega), show c &&& 127 = c % 2 ^ 7 from Nat.and_two_pow_sub_one_eq_mod _ 7]
      refine NumP.to ((7 * i : Nat) : Int) (by rw [wrap_i64]; omega) ?_
      (conv => whnf)
      (refine ReqP.mk (by first | decide | omega | (constructor <;> omega)) ?_; (conv => whnf))
      rw [show shlV .u64 ((c % 2 ^ 7 : Nat) : Int) ((7 * i : Nat) : Int) = ((c % 2 ^ 7 * 2 ^ (7 * i) % 18446744073709551616 : Nat) : Int) from shl64 _ _, show c % 2 ^ 7 = c % 128 from rfl, Nat.mod_eq_of_lt hr2]
      have hx64 : x < 18446744073709551616 := by omega
      rw [show bitsV .or .u64 ((x : Nat) : Int) ((c % 128 * 2 ^ (7 * i) : Nat) : Int) = ((x ||| c % 128 * 2 ^ (7 * i) : Nat) : Int) from or64 _ _ hx64 hr2, or_top _ _ _ hx]
      refine CmpP.split (fun h => ?_) (fun h => ?_)
      · have h128 : c < 128 := by simp only [decide_eq_true_eq] at h; omega
        rw [if_pos h128] at hf
        (conv => whnf)
        refine CmpP.split (fun h => ?_) (fun h => ?_)
        · have hi0 : 0 < i := by simp only [gt_iff_lt, decide_eq_true_eq] at h; omega
          (conv => whnf)
          refine CmpP.split (fun h => ?_) (fun h => ?_)
          · have hc0 : c = 0 := by simp only [beq_iff_eq] at h; omega
            rw [if_pos ⟨hi0, hc0⟩] at hf
            (conv => whnf)
            refine ⟨rfl, ?_⟩
            rw [← hf]
            rfl
          have hc0 : ¬ (0 < i ∧ c = 0) := by simp only [beq_eq_false_iff_ne, ne_eq] at h; omega
          rw [if_neg hc0] at hf
          (conv => whnf)
          refine NumP.to ((i + 1 : Nat) : Int) (by rw [wrap_i64]; omega) ?_
          (conv => whnf)
          refine ⟨rfl, ?_⟩
          rw [← hf]
          rfl
        have hc0 : ¬ (0 < i ∧ c = 0) := by simp only [gt_iff_lt, decide_eq_false_iff_not] at h; omega
        rw [if_neg hc0] at hf
        (conv => whnf)
        refine NumP.to ((i + 1 : Nat) : Int) (by rw [wrap_i64]; omega) ?_
        (conv => whnf)
        refine ⟨rfl, ?_⟩
        rw [← hf]
        rfl
      · have h128 : ¬ c < 128 := by simp only [decide_eq_false_iff_not] at h; omega
        rw [if_neg h128] at hf
        (conv => whnf)
        refine NumP.to ((i + 1 : Nat) : Int) (by rw [wrap_i64]; omega) ?_
        (conv => whnf)
        refine ⟨k, i + 1, x + c % 128 * 2 ^ (7 * i), (by repeat (first | exact trivial | refine ⟨rfl, ?_⟩)), ⟨rfl, hf, by omega, ?_, by omega⟩, by omega⟩
        rw [hstep]
        have : c % 128 * 2 ^ (7 * i) ≤ 127 * 2 ^ (7 * i) := Nat.mul_le_mul_right _ (by omega)
        omega
    have h1 : ¬ (i = 9 ∧ 1 < c) := by simp only [beq_eq_false_iff_ne, ne_eq] at h; omega
    (conv => whnf)
    rw [if_neg h1] at hf
    obtain ⟨hr1, hr2⟩ := hrest h1
    rw [show bitsV .and .u64 ((c : Nat) : Int) 127 = ((c &&& 127 : Nat) : Int) from and64 c 127 (by omega) (by omega), show c &&& 127 = c % 2 ^ 7 from Nat.and_two_pow_sub_one_eq_mod _ 7]
    refine NumP.to ((7 * i : Nat) : Int) (by rw [wrap_i64]; omega) ?_
    (conv => whnf)
    (refine ReqP.mk (by first | decide | omega | (constructor <;> omega)) ?_; (conv => whnf))
    rw [show shlV .u64 ((c % 2 ^ 7 : Nat) : Int) ((7 * i : Nat) : Int) = ((c % 2 ^ 7 * 2 ^ (7 * i) % 18446744073709551616 : Nat) : Int) from shl64 _ _, show c % 2 ^ 7 = c % 128 from rfl, Nat.mod_eq_of_lt hr2]
    have hx64 : x < 18446744073709551616 := by omega
    rw [show bitsV .or .u64 ((x : Nat) : Int) ((c % 128 * 2 ^ (7 * i) : Nat) : Int) = ((x ||| c % 128 * 2 ^ (7 * i) : Nat) : Int) from or64 _ _ hx64 hr2, or_top _ _ _ hx]
    refine CmpP.split (fun h => ?_) (fun h => ?_)
    · have h128 : c < 128 := by simp only [decide_eq_true_eq] at h; omega
      rw [if_pos h128] at hf
      (conv => whnf)
      refine CmpP.split (fun h => ?_) (fun h => ?_)
      · have hi0 : 0 < i := by simp only [gt_iff_lt, decide_eq_true_eq] at h; omega
        (conv => whnf)
        refine CmpP.split (fun h => ?_) (fun h => ?_)
        · have hc0 : c = 0 := by simp only [beq_iff_eq] at h; omega
          rw [if_pos ⟨hi0, hc0⟩] at hf
          (conv => whnf)
          refine ⟨rfl, ?_⟩
          rw [← hf]
          rfl
        have hc0 : ¬ (0 < i ∧ c = 0) := by simp only [beq_eq_false_iff_ne, ne_eq] at h; omega
        rw [if_neg hc0] at hf
        (conv => whnf)
        refine NumP.to ((i + 1 : Nat) : Int) (by rw [wrap_i64]; omega) ?_
        (conv => whnf)
        refine ⟨rfl, ?_⟩
        rw [← hf]
        rfl
      have hc0 : ¬ (0 < i ∧ c = 0) := by simp only [gt_iff_lt, decide_eq_false_iff_not] at h; omega
      rw [if_neg hc0] at hf
      (conv => whnf)
      refine NumP.to ((i + 1 : Nat) : Int) (by rw [wrap_i64]; omega) ?_
      (conv => whnf)
      refine ⟨rfl, ?_⟩
      rw [← hf]
      rfl
    · have h128 : ¬ c < 128 := by simp only [decide_eq_false_iff_not] at h; omega
      rw [if_neg h128] at hf
      (conv => whnf)
      refine NumP.to ((i + 1 : Nat) : Int) (by rw [wrap_i64]; omega) ?_
      (conv => whnf)
      refine ⟨k, i + 1, x + c % 128 * 2 ^ (7 * i), (by repeat (first | exact trivial | refine ⟨rfl, ?_⟩)), ⟨rfl, hf, by omega, ?_, by omega⟩, by omega⟩
      rw [hstep]
      have : c % 128 * 2 ^ (7 * i) ≤ 127 * 2 ^ (7 * i) := Nat.mul_le_mul_right _ (by omega)
      omega
  · have hge : i = 10 := by simp only [decide_eq_false_iff_not] at h; omega
    have hk0 : k = 0 := by omega
    subst hk0
    (conv => whnf)
    refine ⟨rfl, ?_⟩
    rw [← hf]
    rfl
end Go.Proofs.YtgeemplpgfiidaaGreatDoor.Mv
/- mmr.Bag, proof.PrefixPlaces, proof.write. -/
namespace Go.Proofs.YtgeemplpgfiidaaGreatDoor.Mv
open Go Go.RowKit Go.Proofs

def zeroH : H := ⟨List.replicate 32 0, by simp⟩
theorem zeroH_cells : H.cells zeroH = List.replicate 32 (Value.int .u8 0) := by simp [H.cells, zeroH, byteV]
/-- Peaks, put together from the right. -/
def foldP (wd : Int) : List H → H
  | [] => zeroH
  | [a] => a
  | a :: b :: r => foldH wd a (foldP wd (b :: r))
def bagF (wd : Int) (n : Nat) (l : List H) : H × Nat :=
  if 4611686018427387904 < n then (zeroH, 30) else if l.length ≠ ones n then (zeroH, 70) else (rootH wd n (foldP wd l), 0)
def bagV (x : H × Nat) : Value := .tuple #[H.val x.1, .int .i64 x.2]

theorem bag_ok (wd : Int) (n : Nat) (v : Value) (l : List H) (hn : n < 18446744073709551616) (w : World) (hg : GlobH w) (hv : Seq codHash w v l) (hl : l.length < 1152921504606846976) :
    Does Tryz.prog 56 [.int .i64 wd, .int .u64 n, v] w (fun r w' => r = bagV (bagF wd n l) ∧ Ext w w') := by
  (refine DoesX.of_vc tyOk Tryz.func56 rfl ⟨rfl, rfl⟩ rfl ?_; (conv => whnf))
  refine RunP.new (z := H.val zeroH) Tryz.zeroValue24 ?_
  intro b6 w1 hb6 hO6 hE1
  have hs1 := hE1.size
  have hO6 : Own w1 b6 (H.cells zeroH) := hO6
  (conv => whnf)
  refine CmpP.split (fun h => ?_) (fun h => ?_)
  · have hgt : 4611686018427387904 < n := by simp only [gt_iff_lt, decide_eq_true_eq] at h; omega
    (conv => whnf)
    refine GetP.build (cells := (H.cells zeroH).toArray) (by kernel_rfl) ?_
    (conv => whnf)
    refine DoP.sts0 tfHash hO6 (H.len _) (H.len _) (bytes_one _) ?_
    intro w2 hO2 hU2
    (conv => whnf)
    refine GetP.ress tfHash (H.len _) hO2.cells ?_
    (conv => whnf)
    refine ⟨?_, hE1.upd hU2 hb6⟩
    rw [bagF, if_pos hgt]
    rfl
  have hle : ¬ 4611686018427387904 < n := by simp only [gt_iff_lt, decide_eq_false_iff_not] at h; omega
  (conv => whnf)
  refine GetP.lenS Tryz.runUnderlying44 (hv.ext hE1) ?_
  (conv => whnf)
  refine CallP.does (ones_ok n hn w1) ?_
  rintro r w1 ⟨rfl, rfl⟩
  (conv => whnf)
  refine CmpP.split (fun h => ?_) (fun h => ?_)
  · have hne : l.length ≠ ones n := by
      intro e
      simp [e] at h
    (conv => whnf)
    refine GetP.build (cells := (H.cells zeroH).toArray) (by kernel_rfl) ?_
    (conv => whnf)
    refine DoP.sts0 tfHash hO6 (H.len _) (H.len _) (bytes_one _) ?_
    intro w2 hO2 hU2
    (conv => whnf)
    refine GetP.ress tfHash (H.len _) hO2.cells ?_
    (conv => whnf)
    refine ⟨?_, hE1.upd hU2 hb6⟩
    rw [bagF, if_neg hle, if_pos hne]
    rfl
  have heq : ¬ l.length ≠ ones n := by
    simp only [bne_eq_false_iff_eq] at h
    have := Int.ofNat_inj.1 h
    omega
  (conv => whnf)
  refine RunP.new (z := H.val zeroH) Tryz.zeroValue24 ?_
  intro b8 w2 hb8 hO8 hE2
  have hs2 := hE2.size
  have hO8 : Own w2 b8 (H.cells zeroH) := hO8
  have hO62 := hO6.ext hE2
  have hb68 : b6 < b8 := by have := hO6.lt; omega
  (conv => whnf)
  refine GetP.lenS Tryz.runUnderlying44 (hv.ext (hE1.trans hE2)) ?_
  (conv => whnf)
  refine NumP.to ((l.length : Int) - 1) (by rw [wrap_i64]; omega) ?_
  (conv => whnf)
  refine loop_only2 tyOk (fun (i : Nat) (_ : H) => [(0, .int .i64 wd), (1, .int .u64 n), (2, v), (6, pt b6), (8, pt b8), (9, .int .i64 ((i : Int) - 1))]) (fun i a w' => Own w' b6 (H.cells zeroH) ∧ Own w' b8 (H.cells a) ∧ Ext w w' ∧ a = foldP wd (l.drop i) ∧ i ≤ l.length) (fun i _ => i) l.length zeroH
    (by repeat (first | exact trivial | refine ⟨rfl, ?_⟩)) ⟨hO62, hO8, hE1.trans hE2, by rw [List.drop_length]; rfl, Nat.le_refl _⟩ ?_
  rintro i a w3 ⟨hO63, hO83, hE3, ha, hi⟩
  have hs3 := hE3.size
  (conv => whnf)
  cases i with
  | zero =>
    refine CmpP.no (by decide) ?_
    (conv => whnf)
    refine GetP.lds tfHash (H.len a) hO83.cells ?_
    (conv => whnf)
    refine CallP.does (root_ok wd n a hn w3 (hg.ext hE3)) ?_
    rintro r w4 ⟨rfl, hE4⟩
    (conv => whnf)
    refine DoP.sts0 tfHash (hO63.ext hE4) (H.len _) (H.len _) (bytes_one _) ?_
    intro w5 hO5 hU5
    (conv => whnf)
    refine GetP.ress tfHash (H.len _) hO5.cells ?_
    (conv => whnf)
    refine ⟨?_, (hE3.trans hE4).upd hU5 (by omega)⟩
    rw [bagF, if_neg hle, if_neg heq, ha, List.drop_zero]
    rfl
  | succ i =>
    refine CmpP.yes (by simp) ?_
    (conv => whnf)
    refine GetP.lenS Tryz.runUnderlying44 (hv.ext hE3) ?_
    (conv => whnf)
    refine NumP.to ((l.length : Int) - 1) (by rw [wrap_i64]; omega) ?_
    (conv => whnf)
    have hil : i < l.length := by omega
    have hd : l.drop i = l[i] :: l.drop (i + 1) := List.drop_eq_getElem_cons hil
    refine CmpP.split (fun h => ?_) (fun h => ?_)
    · have hlast : i + 1 = l.length := by simp only [beq_iff_eq] at h; omega
      (conv => whnf)
      refine GetP.idxS Tryz.runUnderlying44 Tryz.sizeOf24 (hv.ext hE3) (by omega) (by omega) ?_
      intro eb eo hc
      have hc : CellsAt w3 eb eo (H.cells l[i]) := by
        have : ((((i + 1 : Nat) : Int) - 1).toNat) = i := by omega
        simp only [this] at hc
        exact hc
      (conv => whnf)
      refine GetP.lds tfHash (H.len _) hc ?_
      (conv => whnf)
      refine DoP.sts0 tfHash hO83 (H.len _) (H.len _) (bytes_one _) ?_
      intro w5 hO5 hU5
      (conv => whnf)
      refine NumP.to ((i : Int) - 1) (by rw [wrap_i64]; omega) ?_
      (conv => whnf)
      refine ⟨i, l[i], (by repeat (first | exact trivial | refine ⟨rfl, ?_⟩)), ⟨hO63.upd hU5 (by omega), hO5, hE3.upd hU5 (by omega), ?_, by omega⟩, by omega⟩
      rw [hd, hlast, List.drop_length]
      rfl
    · have hnl : i + 1 < l.length := by simp only [beq_eq_false_iff_ne, ne_eq] at h; omega
      (conv => whnf)
      refine draw_ext tyOk mixed (.q 0 (.q 1 (.q 2 (.q 3 (.q 4 (.q 5 (.e [(6, .e [(7, .done)])]))))))) (by kernel_rfl) ?_
      intro w4 hE4 hs4
      (conv => whnf)
      refine GetP.idxS Tryz.runUnderlying44 Tryz.sizeOf24 (hv.ext (hE3.trans hE4)) (by omega) (by omega) ?_
      intro eb eo hc
      have hc : CellsAt w4 eb eo (H.cells l[i]) := by
        have : ((((i + 1 : Nat) : Int) - 1).toNat) = i := by omega
        simp only [this] at hc
        exact hc
      (conv => whnf)
      refine GetP.ldsS tfHash (H.len _) (fun w' hw' => hc.ext hw') ?_
      (conv => whnf)
      refine GetP.ldsS tfHash (H.len a) (fun w' hw' => ((hO83.ext hE4).ext hw').cells) ?_
      (conv => whnf)
      refine CallP.does (fold_ok wd l[i] a w4 (hg.ext (hE3.trans hE4))) ?_
      rintro r w5 ⟨rfl, hE5⟩
      have hs5 := hE5.size
      (conv => whnf)
      (refine BarP.no ?_)
      refine ReqP.mk hE5 ?_
      (conv => whnf)
      refine DoP.sts0 tfHash ((hO83.ext hE4).ext hE5) (H.len _) (H.len _) (bytes_one _) ?_
      intro w6 hO6' hU6
      (conv => whnf)
      (refine BarP.yes (by decide +kernel) ?_; (conv => whnf))
      (conv => whnf)
      refine NumP.to ((i : Int) - 1) (by rw [wrap_i64]; omega) ?_
      (conv => whnf)
      refine ⟨i, foldH wd l[i] a, (by repeat (first | exact trivial | refine ⟨rfl, ?_⟩)), ⟨((hO63.ext hE4).ext hE5).upd hU6 (by omega), hO6', ((hE3.trans hE4).trans hE5).upd hU6 (by omega), ?_, by omega⟩, by omega⟩
      rw [hd, ha, List.drop_eq_getElem_cons hnl]
      rfl
end Go.Proofs.YtgeemplpgfiidaaGreatDoor.Mv
/- proof.PrefixPlaces, proof.write, proof.EncodePrefix. -/
namespace Go.Proofs.YtgeemplpgfiidaaGreatDoor.Mv
open Go Go.RowKit Go.Proofs

theorem span_good (b : Nat) (hb : b ≤ 4611686018427387904) : ∀ d a, b - a = d → ∀ s ∈ spanF a b, s.Good := by
  intro d
  induction d using Nat.strongRecOn with
  | _ d ih =>
    intro a hd s hs
    by_cases h : a < b
    · rw [spanF_cons h] at hs
      have hst := spanH_le h
      have hp := Nat.two_pow_pos (spanH a b)
      rcases List.mem_cons.1 hs with rfl | hs
      · unfold Spot.Good
        simp only
        have hdv : 2 ^ spanH a b ∣ a := Nat.dvd_trans (Nat.pow_dvd_pow 2 (Nat.min_le_left _ _)) (low_dvd a)
        rw [Nat.add_mul, Nat.div_mul_cancel hdv]
        omega
      · exact ih _ (by omega) _ rfl s hs
    · rw [spanF_nil h] at hs
      cases hs

def placesF (m n : Nat) : List Nat × Nat := if 4611686018427387904 < n ∨ n < m then ([], 30) else (peaksF m ++ (spanF m n).map fun s => (placeF s).getD 0, 0)

theorem prefixPlaces_ok (m n : Nat) (hm : m < 18446744073709551616) (hn : n < 18446744073709551616) (w : World) (hg : Glob w) :
    Does Tryz.prog 57 [.int .u64 m, .int .u64 n] w (fun r w' => ∃ v, r = .tuple #[v, .int .i64 (placesF m n).2] ∧ Grow codU64 22 w.heap.size w' v (placesF m n).1 ∧ Ext w w') := by
  have hw3 := hg.lt
  (refine DoesX.of_vc tyOk Tryz.func57 rfl ⟨rfl, rfl⟩ rfl ?_; (conv => whnf))
  have bad : (4611686018427387904 < n ∨ n < m) → ∃ v, Value.tuple #[.slice none 0 0, .int .i64 30] = .tuple #[v, .int .i64 (placesF m n).2] ∧ Grow codU64 22 w.heap.size w v (placesF m n).1 ∧ Ext w w := by
    intro h
    rw [placesF, if_pos h]
    exact ⟨_, rfl, Grow.nil _ _ _ _, Ext.refl _⟩
  refine CmpP.split (fun h => ?_) (fun h => ?_)
  · (conv => whnf)
    exact bad (.inl (by simp only [gt_iff_lt, decide_eq_true_eq] at h; omega))
  have h1 : ¬ 4611686018427387904 < n := by simp only [gt_iff_lt, decide_eq_false_iff_not] at h; omega
  (conv => whnf)
  refine CmpP.split (fun h => ?_) (fun h => ?_)
  · (conv => whnf)
    exact bad (.inr (by simp only [gt_iff_lt, decide_eq_true_eq] at h; omega))
  have h2 : ¬ n < m := by simp only [gt_iff_lt, decide_eq_false_iff_not] at h; omega
  clear bad
  (conv => whnf)
  refine CallP.does (peaks_ok m (by omega) w) ?_
  rintro v w1 ⟨hG1, hE1⟩
  have hs1 := hE1.size
  have hpl := peaks_len m (by omega)
  have hp63 := ones_le63 m (by omega)
  (conv => whnf)
  refine CallP.does (span_ok m n (by omega) (by omega) w1 (hg.ext hE1)) ?_
  rintro vs w2 ⟨hGs, hE2⟩
  have hs2 := hE2.size
  have hspl := span_le m n (by omega)
  (conv => whnf)
  refine GetP.lenS Tryz.runUnderlying155 hGs.seq ?_
  (conv => whnf)
  refine loop_only2 tyOk (fun (i : Nat) (v : Value) => [(6, v), (22, vs), (23, .int .i64 (spanF m n).length), (24, .int .i64 i)])
    (fun i v w' => Grow codU64 22 w.heap.size w' v (peaksF m ++ ((spanF m n).take i).map fun s => (placeF s).getD 0) ∧ Seq codSpot w' vs (spanF m n) ∧ (∀ b, inBlock vs b → ¬ inBlock v b) ∧ Ext w w' ∧ i ≤ (spanF m n).length) (fun i _ => (spanF m n).length - i) 0 v
    (by repeat (first | exact trivial | refine ⟨rfl, ?_⟩)) ⟨?_, hGs.seq, ?_, Ext.trans hE1 hE2, by omega⟩ ?_
  · simpa using hG1.ext hE2
  · intro b hb hb'
    have := (hGs.block hb).1
    have := (hG1.block hb').2
    omega
  rintro i v w3 ⟨hG, hS, hd, hE, hi⟩
  have hs3 := hE.size
  (conv => whnf)
  refine CmpP.split (fun h => ?_) (fun h => ?_)
  · have hlt : i < (spanF m n).length := by simp only [decide_eq_true_eq] at h; omega
    have hgood := span_good n (by omega) _ m rfl _ (List.getElem_mem hlt)
    generalize hs : (spanF m n)[i] = s at hgood
    (conv => whnf)
    refine GetP.idxS Tryz.runUnderlying155 Tryz.sizeOf159 hS (by omega) (by simpa using hlt) ?_
    intro eb eo hc
    have hc : CellsAt w3 eb eo (Spot.cells s) := by
      simp only [Int.toNat_natCast, hs] at hc
      exact hc
    (conv => whnf)
    refine GetP.lds tfSpot (cs := Spot.cells s) rfl hc ?_
    (conv => whnf)
    refine RunP.new (z := Spot.val ⟨0, 0⟩) Tryz.zeroValue159 ?_
    intro b8 w4 hb8 hO8 hE4
    have hs4 := hE4.size
    (conv => whnf)
    refine DoP.sts0 tfSpot hO8 rfl rfl (codSpot.one s) ?_
    intro w5 hO5 hU5
    have hs5 := hU5.size
    have hE5 : Ext w3 w5 := hE4.upd hU5 (by omega)
    (conv => whnf)
    refine GetP.lds tfSpot (cs := Spot.cells s) rfl hO5.cells ?_
    (conv => whnf)
    refine CallP.does (place_ok s hgood.fits w5) ?_
    rintro r w6 ⟨rfl, hE6⟩
    have hs6 := hE6.size
    have hE6 := hE5.trans hE6
    (conv => whnf)
    refine RunP.slice1 (C := codU64) (a := (placeF s).getD 0) Tryz.runUnderlying45 Tryz.sizeOf22 Tryz.zeroValue22 rfl rfl (by decide) ?_
    intro b9 w7 hb9 hO9 hE7 hq7
    have hs7 := hE7.size
    have hE7 := hE6.trans hE7
    have hlen : (peaksF m ++ ((spanF m n).take i).map fun s => (placeF s).getD 0).length = (peaksF m).length + i := by simp; omega
    (conv => whnf)
    refine RunP.appendX elU64 (hG.ext hE7) hq7 (by rw [hlen]; simp only [maxLen, List.length_cons, List.length_nil]; omega) (by rw [hlen]; simp only [List.length_cons, List.length_nil]; omega) (by omega) ?_
    intro v' w8 hG8 hgr8 hin8
    (conv => whnf)
    refine NumP.to ((i + 1 : Nat) : Int) (by rw [wrap_i64]; omega) ?_
    (conv => whnf)
    refine ⟨i + 1, v', (by repeat (first | exact trivial | refine ⟨rfl, ?_⟩)), ⟨?_, (hS.ext hE7).kept (hG.ext hE7) hgr8 hd, ?_, Below.trans (hE.trans hE7) ((hG.ext hE7).grown_below hgr8 (by omega)), by omega⟩, by omega⟩
    · rw [List.take_succ_eq_append_getElem hlt, hs, List.map_append, ← List.append_assoc]
      exact hG8
    · intro b hb hb'
      rcases hin8 b hb' with h | h
      · exact hd b hb h
      · have := hS.lt hb
        omega
  · have hge : i = (spanF m n).length := by simp only [decide_eq_false_iff_not] at h; omega
    subst hge
    (conv => whnf)
    rw [placesF, if_neg (by omega)]
    rw [List.take_length] at hG
    exact ⟨v, rfl, hG, hE⟩

/-! write -/
theorem elHash : ElF Tryz.prog 44 24 codHash 32 := ⟨Tryz.underlying44, ⟨Tryz.t24, H.val zeroH, by kernel_rfl, by kernel_rfl, by kernel_rfl, by kernel_rfl, by kernel_rfl⟩⟩
def bytesF (l : List H) : List UInt8 := l.flatMap (·.1)
theorem bytesF_len (l : List H) : (bytesF l).length = 32 * l.length := by
  induction l with
  | nil => rfl
  | cons a r ih => simp only [bytesF, List.flatMap_cons, List.length_append, List.length_cons] at ih ⊢; rw [ih, a.2]; omega
def writeF (kind : UInt8) (a b : Nat) (l : List H) : List UInt8 := kind :: (shortF a ++ shortF b) ++ bytesF l

theorem write_ok2 (kind : UInt8) (a b : Nat) (v : Value) (l : List H) (ha : a < 18446744073709551616) (hb : b < 18446744073709551616) (hl : l.length < 1048576) (w : World) (hv : Seq codHash w v l) :
    Does Tryz.prog 59 [byteV kind, .int .u64 a, .int .u64 b, v] w (fun r w' => Grow codByte 5 w.heap.size w' r (writeF kind a b l) ∧ Ext w w') := by
  have hsa := shortF_len 9 a (by omega)
  have hsb := shortF_len 9 b (by omega)
  (refine DoesX.of_vc tyOk Tryz.func59 rfl ⟨rfl, rfl⟩ rfl ?_; (conv => whnf))
  refine RunP.slice1 (C := codByte) (a := kind) Tryz.runUnderlying25 Tryz.sizeOf5 Tryz.zeroValue5 rfl rfl (by decide) ?_
  intro b1 w1 hb1 hO1 hE1 hq1
  have hs1 := hE1.size
  (conv => whnf)
  refine CallP.does (short_ok a ha w1) ?_
  rintro va w2 ⟨hGa, hE2⟩
  have hs2 := hE2.size
  (conv => whnf)
  refine CallP.does (short_ok b hb w2) ?_
  rintro vb w3 ⟨hGb, hE3⟩
  have hs3 := hE3.size
  (conv => whnf)
  refine RunP.slice (C := codSV) (l := [⟨.slice (some ⟨b1, 0, none⟩) 1 1, rfl⟩, ⟨va, hGa.one⟩, ⟨vb, hGb.one⟩]) (vals := [.slice (some ⟨b1, 0, none⟩) 1 1, va, vb]) Tryz.runUnderlying176 Tryz.sizeOf25 Tryz.zeroValue25 rfl rfl (by simp [hGa.cell1, hGb.cell1]; rfl) (show 3 * 1 ≤ 16777216 by decide) ?_
  intro b8 w4 hb8 hO8 hE4 hq8 _
  have hs4 := hE4.size
  (conv => whnf)
  have hp : Parts w4 [⟨.slice (some ⟨b1, 0, none⟩) 1 1, rfl⟩, ⟨va, hGa.one⟩, ⟨vb, hGb.one⟩] [[kind], shortF a, shortF b] := by
    refine ⟨rfl, fun i v l hv hl => ?_⟩
    match i, hv, hl with
    | 0, hv, hl => cases hv; cases hl; exact ((hq1.ext hE2).ext hE3).ext hE4
    | 1, hv, hl => cases hv; cases hl; exact (hGa.seq.ext hE3).ext hE4
    | 2, hv, hl => cases hv; cases hl; exact hGb.seq.ext hE4
    | _ + 3, hv, hl => cases hv
  have hfl : ([[kind], shortF a, shortF b] : List (List UInt8)).flatten = kind :: (shortF a ++ shortF b) := by simp
  refine CallP.does (concat_ok _ _ _ w4 hq8 hp (by rw [hfl]; simp; omega) (by simp)) ?_
  rintro r w5 ⟨hG5, hE5⟩
  have hs5 := hE5.size
  rw [hfl] at hG5
  have hEw5 := (((hE1.trans hE2).trans hE3).trans hE4).trans hE5
  (conv => whnf)
  refine GetP.lenS Tryz.runUnderlying44 (hv.ext hEw5) ?_
  (conv => whnf)
  refine loop_only2 tyOk (fun (i : Nat) (u : Value) => [(9, u), (20, v), (21, .int .i64 l.length), (22, .int .i64 i)])
    (fun i u w' => Grow codByte 5 w.heap.size w' u (kind :: (shortF a ++ shortF b) ++ bytesF (l.take i)) ∧ Ext w w' ∧ i ≤ l.length) (fun i _ => l.length - i) 0 r
    (by repeat (first | exact trivial | refine ⟨rfl, ?_⟩)) ⟨?_, hEw5, by omega⟩ ?_
  · rw [List.take_zero, show bytesF [] = [] from rfl, List.append_nil]
    exact hG5.mono (by omega)
  rintro i u w6 ⟨hG, hE, hi⟩
  have hs6 := hE.size
  (conv => whnf)
  refine CmpP.split (fun h => ?_) (fun h => ?_)
  · have hlt : i < l.length := by simp only [decide_eq_true_eq] at h; omega
    (conv => whnf)
    refine GetP.idxS Tryz.runUnderlying44 Tryz.sizeOf24 (hv.ext hE) (by omega) (by simpa using hlt) ?_
    intro eb eo hc
    (conv => whnf)
    refine GetP.lds tfHash (cs := H.cells l[i]) (H.len _) hc ?_
    (conv => whnf)
    refine RunP.new (z := H.val zeroH) Tryz.zeroValue24 ?_
    intro b11 w7 hb11 hO11 hE7
    have hs7 := hE7.size
    (conv => whnf)
    refine DoP.sts0 tfHash (vs := H.cells l[i]) hO11 (H.len _) (H.len _) (bytes_one _) ?_
    intro w8 hO8 hU8
    have hs8 := hU8.size
    have hE8 : Ext w6 w8 := hE7.upd hU8 (by omega)
    (conv => whnf)
    refine GetP.arr Tryz.runUnderlying24 Tryz.sizeOf5 ?_
    (conv => whnf)
    have hq : Seq codByte w8 (.slice (some ⟨b11, 0, none⟩) 32 32) (l[i]).1 := by
      have := Own.seqByte (l := (l[i]).1) hO8
      rwa [(l[i]).2] at this
    have hl32 := (l[i]).2
    have hlen : (kind :: (shortF a ++ shortF b) ++ bytesF (l.take i)).length ≤ 21 + 32 * i := by
      simp only [List.cons_append, List.length_cons, List.length_append, bytesF_len, List.length_take]; omega
    refine RunP.append elByte (hG.ext hE8) hq (by simp only [maxLen]; omega) (by omega) (by omega) ?_
    intro u' w9 hG9 hgr9
    (conv => whnf)
    refine NumP.to ((i + 1 : Nat) : Int) (by rw [wrap_i64]; omega) ?_
    (conv => whnf)
    refine ⟨i + 1, u', (by repeat (first | exact trivial | refine ⟨rfl, ?_⟩)), ⟨?_, Below.trans (hE.trans hE8) ((hG.ext hE8).grown_below hgr9 (by omega)), by omega⟩, by omega⟩
    have : bytesF (l.take (i + 1)) = bytesF (l.take i) ++ (l[i]).1 := by
      rw [List.take_succ_eq_append_getElem hlt]; simp only [bytesF, List.flatMap_append, List.flatMap_cons, List.flatMap_nil, List.append_nil]
    rw [this, ← List.append_assoc]
    exact hG9
  · have hge : i = l.length := by simp only [decide_eq_false_iff_not] at h; omega
    subst hge
    rw [List.take_length] at hG
    (conv => whnf)
    exact ⟨hG, hE⟩
end Go.Proofs.YtgeemplpgfiidaaGreatDoor.Mv
/- proof.EncodePrefix, the reader, proof.DecodePrefix. -/
namespace Go.Proofs.YtgeemplpgfiidaaGreatDoor.Mv
open Go Go.RowKit Go.Proofs

theorem tfHashes : TyF Tryz.prog 44 false 1 := ⟨Tryz.isAgg44, Tryz.sizeOf44⟩
theorem tfErr : TyF Tryz.prog 30 false 1 := ⟨Tryz.isAgg30, Tryz.sizeOf30⟩
theorem tfPrefix : TyF Tryz.prog 55 true 3 := ⟨Tryz.isAgg55, Tryz.sizeOf55⟩
def prefC (m n : Nat) (v : Value) : List Value := [.int .u64 m, .int .u64 n, v]
def prefV (m n : Nat) (v : Value) : Value := .agg (prefC m n v).toArray

def encE (m n : Nat) (k : Nat) : Nat := if (placesF m n).2 ≠ 0 then (placesF m n).2 else if (placesF m n).1.length ≠ k then 70 else 0
theorem places_len (m n : Nat) : (placesF m n).1.length ≤ 200 := by
  unfold placesF
  split
  · simp
  · rename_i h
    have h1 := peaks_len m (by omega)
    have h2 := ones_le63 m (by omega)
    have h3 := span_le m n (by omega)
    simp
    omega

theorem encodePrefix_ok (m n : Nat) (v : Value) (l : List H) (hm : m < 18446744073709551616) (hn : n < 18446744073709551616) (hl : l.length < 1048576) (w : World) (hg : Glob w) (hv : Seq codHash w v l) :
    Does Tryz.prog 20 [prefV m n v] w (fun r w' => ∃ u, r = .tuple #[u, .int .i64 (encE m n l.length)] ∧ Grow codByte 5 w.heap.size w' u (if encE m n l.length = 0 then writeF 80 m n l else []) ∧ Ext w w') := by
  (refine DoesX.of_vc tyOk Tryz.func20 rfl ⟨rfl, rfl⟩ rfl ?_; (conv => whnf))
  refine RunP.box ?_
  intro b1 w1 hb1 hO1 hE1
  have hO1 : Own w1 b1 [.int .u64 m, .int .u64 n, v] := hO1
  have hs1 := hE1.size
  (conv => whnf)
  refine GetP.ld tfU64 (v := .int .u64 m) (by rw [hO1.cell]; rfl) ?_
  (conv => whnf)
  refine GetP.ld tfU64 (v := .int .u64 n) (by rw [hO1.cell]; rfl) ?_
  (conv => whnf)
  refine CallP.does (prefixPlaces_ok m n hm hn w1 (hg.ext hE1)) ?_
  rintro r w2 ⟨vp, rfl, hGp, hE2⟩
  have hs2 := hE2.size
  have hpl := places_len m n
  (conv => whnf)
  refine CmpP.split (fun h => ?_) (fun h => ?_)
  · have hne : (placesF m n).2 ≠ 0 := by
      intro e
      simp [e] at h
    have he : encE m n l.length = (placesF m n).2 := by rw [encE, if_pos hne]
    (conv => whnf)
    refine ⟨_, by rw [he], ?_, hE1.trans hE2⟩
    rw [he, if_neg hne]
    exact Grow.nil _ _ _ _
  have h0 : ¬ (placesF m n).2 ≠ 0 := by
    simp only [bne_eq_false_iff_eq] at h
    omega
  (conv => whnf)
  refine GetP.lenS Tryz.runUnderlying45 hGp.seq ?_
  (conv => whnf)
  refine GetP.ld tfHashes (v := v) (by rw [(hO1.ext hE2).cell]; rfl) ?_
  (conv => whnf)
  refine GetP.lenS Tryz.runUnderlying44 (hv.ext (hE1.trans hE2)) ?_
  (conv => whnf)
  refine CmpP.split (fun h => ?_) (fun h => ?_)
  · have hne : (placesF m n).1.length ≠ l.length := by
      intro e
      simp [e] at h
    have he : encE m n l.length = 70 := by rw [encE, if_neg h0, if_pos hne]
    (conv => whnf)
    refine ⟨_, by rw [he]; rfl, ?_, hE1.trans hE2⟩
    rw [he]
    exact Grow.nil _ _ _ _
  have hne : ¬ (placesF m n).1.length ≠ l.length := by
    simp only [bne_eq_false_iff_eq] at h
    have := Int.ofNat_inj.1 h
    omega
  have he : encE m n l.length = 0 := by rw [encE, if_neg h0, if_neg hne]
  (conv => whnf)
  refine GetP.ld tfU64 (v := .int .u64 m) (by rw [(hO1.ext hE2).cell]; rfl) ?_
  (conv => whnf)
  refine GetP.ld tfU64 (v := .int .u64 n) (by rw [(hO1.ext hE2).cell]; rfl) ?_
  (conv => whnf)
  refine GetP.ld tfHashes (v := v) (by rw [(hO1.ext hE2).cell]; rfl) ?_
  (conv => whnf)
  refine CallP.does (write_ok2 80 m n v l hm hn hl w2 (hv.ext (hE1.trans hE2))) ?_
  rintro u w3 ⟨hG3, hE3⟩
  (conv => whnf)
  refine ⟨u, by rw [he]; rfl, ?_, (hE1.trans hE2).trans hE3⟩
  rw [he, if_pos rfl]
  exact hG3.mono (by omega)

/-! The reader -/
def readC (v : Value) (e : Nat) : List Value := [v, .int .i64 e]
def failF (wrong : Bool) (x e : Nat) : Nat := if e = 0 ∧ wrong = true then x else e

theorem failF_zero {wrong : Bool} {x e : Nat} (h : failF wrong x e = 0) (hx : x ≠ 0) : e = 0 ∧ wrong = false := by
  unfold failF at h
  split at h
  · omega
  · rename_i h'
    subst h
    cases wrong
    · exact ⟨rfl, rfl⟩
    · simp at h'
theorem fail_ok (b : Nat) (v : Value) (e x : Nat) (wrong : Bool) (w : World) (hO : Own w b (readC v e)) :
    Does Tryz.prog 84 [pt b, .bool wrong, .int .i64 x] w (fun r w' => r = .tuple #[] ∧ Own w' b (readC v (failF wrong x e)) ∧ Upd b w w') := by
  (refine DoesX.of_vc tyOk Tryz.func84 rfl ⟨rfl, rfl⟩ rfl ?_; (conv => whnf))
  refine GetP.ld tfErr (v := .int .i64 e) (by rw [hO.cell]; rfl) ?_
  (conv => whnf)
  refine CmpP.split (fun h => ?_) (fun h => ?_)
  · have he : e = 0 := by simp only [beq_iff_eq] at h; omega
    cases wrong with
    | true =>
      (conv => whnf)
      refine DoP.st tfErr rfl hO (by simp [readC]) rfl ?_
      intro w1 hO1 hU1
      (conv => whnf)
      refine ⟨rfl, ?_, hU1⟩
      rw [failF, if_pos ⟨he, rfl⟩]
      exact hO1
    | false =>
      (conv => whnf)
      refine ⟨rfl, ?_, Upd.refl _ _⟩
      rw [failF, if_neg (by simp)]
      exact hO
  · have he : e ≠ 0 := by simp only [beq_eq_false_iff_ne, ne_eq] at h; omega
    (conv => whnf)
    refine ⟨rfl, ?_, Upd.refl _ _⟩
    rw [failF, if_neg (fun h => he h.1)]
    exact hO

/-- What a reader has left, and its error. -/
structure ReadAt (w : World) (b : Nat) (v₀ : Value) (l : List UInt8) (e : Nat) : Prop where
  out : ∃ v, Own w b (readC v e) ∧ Seq codByte w v l ∧ v.oneCell' = true ∧ ∀ x, inBlock v x → inBlock v₀ x

theorem seq_one {α : Type} {C : Cod α} {w : World} {v : Value} {l : List α} (h : Seq C w v l) : v.oneCell' = true := by
  rcases h with ⟨rfl, _⟩ | ⟨_, _, _, rfl, _⟩ <;> rfl

def kindF (k : UInt8) (s : List UInt8 × Nat) : List UInt8 × Nat :=
  if failF (s.1.length == 0) 11 s.2 ≠ 0 then (s.1, failF (s.1.length == 0) 11 s.2) else (s.1.drop 1, failF (s.1.headD 0 != k) 14 0)

theorem kind_ok (k : UInt8) (b : Nat) (v₀ : Value) (l : List UInt8) (e : Nat) (w : World) (hR : ReadAt w b v₀ l e) (hn : l.length < 1152921504606846976) (hnb : ¬ inBlock v₀ b) :
    Does Tryz.prog 83 [pt b, byteV k] w (fun r w' => ReadAt w' b v₀ (kindF k (l, e)).1 (kindF k (l, e)).2 ∧ Upd b w w') := by
  obtain ⟨v, hO, hv, h1v, hvb⟩ := hR.out
  (refine DoesX.of_vc tyOk Tryz.func83 rfl ⟨rfl, rfl⟩ rfl ?_; (conv => whnf))
  refine GetP.ld tfBytes (v := v) (by rw [hO.cell]; rfl) ?_
  (conv => whnf)
  refine GetP.lenS Tryz.runUnderlying25 hv ?_
  (conv => whnf)
  refine CmpP.of (l.length == 0) (by rw [Bool.eq_iff_iff]; simp) ?_
  (conv => whnf)
  refine CallP.does (fail_ok b v e 11 (l.length == 0) w hO) ?_
  rintro r w1 ⟨rfl, hO1, hU1⟩
  have hv1 := hv.upd hU1 (fun h => hnb (hvb _ h))
  (conv => whnf)
  refine GetP.ld tfErr (v := .int .i64 (failF (l.length == 0) 11 e : Nat)) (by rw [hO1.cell]; rfl) ?_
  (conv => whnf)
  refine CmpP.split (fun h => ?_) (fun h => ?_)
  · have hne : failF (l.length == 0) 11 e ≠ 0 := by intro h0; simp [h0] at h
    (conv => whnf)
    refine ⟨⟨v, ?_⟩, hU1⟩
    rw [kindF, if_pos hne]
    exact ⟨hO1, hv1, h1v, hvb⟩
  have h0 : ¬ failF (l.length == 0) 11 e ≠ 0 := by
    simp only [bne_eq_false_iff_eq] at h
    omega
  have hl0 : l ≠ [] := by
    intro e0
    subst e0
    apply h0
    unfold failF
    split
    · omega
    · rename_i h'
      simp at h'
      exact h'
  (conv => whnf)
  refine GetP.ld tfBytes (v := v) (by rw [hO1.cell]; rfl) ?_
  (conv => whnf)
  obtain ⟨c, r, rfl⟩ := List.exists_cons_of_ne_nil hl0
  refine GetP.idxS Tryz.runUnderlying25 Tryz.sizeOf5 hv1 (by omega) (by simp) ?_
  intro eb eo hc
  (conv => whnf)
  refine GetP.ld tfU8 (v := byteV c) (by have := hc 0 (byteV c) (by rfl); exact this) ?_
  (conv => whnf)
  refine CmpP.of (c != k) (by
    rw [Bool.eq_iff_iff]
    simp [← UInt8.toNat_inj]
    omega) ?_
  (conv => whnf)
  refine CallP.does (fail_ok b v _ 14 (c != k) w1 hO1) ?_
  rintro r' w2 ⟨rfl, hO2, hU2⟩
  have hv2 := hv1.upd hU2 (fun h => hnb (hvb _ h))
  (conv => whnf)
  refine GetP.ld tfBytes (v := v) (by rw [hO2.cell]; rfl) ?_
  (conv => whnf)
  refine GetP.subS hv2 Tryz.runUnderlying25 Tryz.sizeOf5 1 (c :: r).length (.inr ⟨_, rfl⟩) (.inl ⟨rfl, rfl⟩) (by simp) (Nat.le_refl _) ?_
  intro v' hv' hvb'
  (conv => whnf)
  refine DoP.st tfBytes rfl hO2 (by simp [readC]) (seq_one hv') ?_
  intro w3 hO3 hU3
  (conv => whnf)
  refine ⟨⟨v', ?_⟩, (hU1.trans hU2).trans hU3⟩
  have h00 : failF ((c :: r).length == 0) 11 e = 0 := by omega
  rw [kindF, if_neg h0]
  rw [h00] at hO3
  refine ⟨hO3, ?_, seq_one hv', fun x hx => hvb x (hvb' x hx)⟩
  rw [List.take_length] at hv'
  exact hv'.upd hU3 (fun h => hnb (hvb _ (hvb' _ h)))

theorem longAux_n (l : List UInt8) : ∀ k i x, i ≤ l.length → (longAux l k i x).2.1 ≤ l.length
  | 0, i, x, _ => by simp [longAux]
  | k + 1, i, x, hi => by
    rw [longAux]
    split
    · simp
    · split
      · simp
      · split
        · split
          · simp
          · simp; omega
        · exact longAux_n l k (i + 1) _ (by omega)
theorem longF_n (l : List UInt8) : (longF l).2.1 ≤ l.length := longAux_n l 10 0 0 (by omega)
theorem longAux_lt (l : List UInt8) : ∀ k i x, i + k = 10 → x < 2 ^ (7 * i) → (longAux l k i x).1 < 18446744073709551616
  | 0, i, x, _, _ => by simp [longAux]
  | k + 1, i, x, hk, hx => by
    have hc8 := (l.getD i 0).toNat_lt
    rw [longAux]
    split
    · simp
    · split
      · simp
      · rename_i h9
        have hpow : 2 ^ (7 * (i + 1)) = 128 * 2 ^ (7 * i) := by rw [show 7 * (i + 1) = 7 * i + 7 by omega, Nat.pow_add]; omega
        generalize (l.getD i 0).toNat = c at h9 hc8 ⊢
        have hp9 : i = 9 ∨ i < 9 := by omega
        have hm : c % 128 * 2 ^ (7 * i) ≤ 127 * 2 ^ (7 * i) := Nat.mul_le_mul_right _ (by omega)
        split
        · split
          · simp
          · show x + c % 128 * 2 ^ (7 * i) < _
            rcases hp9 with rfl | h8
            · have : c % 128 * 2 ^ (7 * 9) ≤ 1 * 2 ^ (7 * 9) := Nat.mul_le_mul_right _ (by omega)
              omega
            · have : 2 ^ (7 * i) ≤ 2 ^ 56 := Nat.pow_le_pow_right (by omega) (by omega)
              omega
        · exact longAux_lt l k (i + 1) _ (by omega) (by omega)
theorem longF_lt (l : List UInt8) : (longF l).1 < 18446744073709551616 := longAux_lt l 10 0 0 rfl (by omega)

def numF (s : List UInt8 × Nat) : Nat × (List UInt8 × Nat) := if s.2 ≠ 0 then (0, s) else ((longF s.1).1, (s.1.drop (longF s.1).2.1, (longF s.1).2.2))
theorem numF_lt (s : List UInt8 × Nat) : (numF s).1 < 18446744073709551616 := by
  unfold numF
  split
  · simp
  · exact longF_lt _
theorem numF_len (s : List UInt8 × Nat) : (numF s).2.1.length ≤ s.1.length := by
  unfold numF
  split
  · simp
  · simp
theorem kindF_len (k : UInt8) (s : List UInt8 × Nat) : (kindF k s).1.length ≤ s.1.length := by
  unfold kindF
  split <;> simp

theorem number_ok (b : Nat) (v₀ : Value) (l : List UInt8) (e : Nat) (w : World) (hR : ReadAt w b v₀ l e) (hn : l.length < 1152921504606846976) (hnb : ¬ inBlock v₀ b) :
    Does Tryz.prog 82 [pt b] w (fun r w' => r = .int .u64 (numF (l, e)).1 ∧ ReadAt w' b v₀ (numF (l, e)).2.1 (numF (l, e)).2.2 ∧ Upd b w w') := by
  obtain ⟨v, hO, hv, h1v, hvb⟩ := hR.out
  (refine DoesX.of_vc tyOk Tryz.func82 rfl ⟨rfl, rfl⟩ rfl ?_; (conv => whnf))
  refine GetP.ld tfErr (v := .int .i64 e) (by rw [hO.cell]; rfl) ?_
  (conv => whnf)
  refine CmpP.split (fun h => ?_) (fun h => ?_)
  · have hne : e ≠ 0 := by intro h0; simp [h0] at h
    (conv => whnf)
    rw [numF, if_pos hne]
    exact ⟨rfl, ⟨v, hO, hv, h1v, hvb⟩, Upd.refl _ _⟩
  have h0 : ¬ e ≠ 0 := by
    simp only [bne_eq_false_iff_eq] at h
    omega
  have he0 : e = 0 := by omega
  subst he0
  (conv => whnf)
  refine GetP.ld tfBytes (v := v) (by rw [hO.cell]; rfl) ?_
  (conv => whnf)
  refine CallP.does (long_ok v l w hv hn) ?_
  rintro r w ⟨rfl, rfl⟩
  (conv => whnf)
  refine CmpP.of ((longF l).2.2 != 0) (by rw [Bool.eq_iff_iff]; simp) ?_
  (conv => whnf)
  refine CallP.does (fail_ok b v 0 (longF l).2.2 ((longF l).2.2 != 0) w hO) ?_
  rintro r' w2 ⟨rfl, hO2, hU2⟩
  have hv2 := hv.upd hU2 (fun h => hnb (hvb _ h))
  have hln := longF_n l
  (conv => whnf)
  refine GetP.ld tfBytes (v := v) (by rw [hO2.cell]; rfl) ?_
  (conv => whnf)
  refine GetP.subS hv2 Tryz.runUnderlying25 Tryz.sizeOf5 (longF l).2.1 l.length (.inr ⟨_, rfl⟩) (.inl ⟨rfl, rfl⟩) hln (Nat.le_refl _) ?_
  intro v' hv' hvb'
  (conv => whnf)
  refine DoP.st tfBytes rfl hO2 (by simp [readC]) (seq_one hv') ?_
  intro w3 hO3 hU3
  (conv => whnf)
  rw [numF, if_neg h0]
  refine ⟨rfl, ⟨v', ?_, ?_, seq_one hv', fun x hx => hvb x (hvb' x hx)⟩, hU2.trans hU3⟩
  · have : failF ((longF l).2.2 != 0) (longF l).2.2 0 = (longF l).2.2 := by
      unfold failF
      split
      · rfl
      · rename_i h'
        simp at h'
        omega
    rw [this] at hO3
    exact hO3
  · rw [List.take_length] at hv'
    exact hv'.upd hU3 (fun h => hnb (hvb _ (hvb' _ h)))

theorem RunP.arrayAt {P : Program} {t e n : Nat} {α : Type} {C : Cod α} {w : World} {v : Value} {l : List α} {k : Value → World → Prop} (hu : ∀ w, (underlying t).run P w = .ok (.array n e) w) (hv : Seq C w v l) (hl : n ≤ l.length) (h0 : 0 < n)
    (hk : ∀ b o, CellsAt w b o (C.all (l.take n)) → inBlock v b → k (.pointer (some ⟨b, o, none⟩)) w) : RunP P w (Instr.arrayAt t v) k := by
  rcases hv with ⟨rfl, rfl⟩ | ⟨b, o, cap, rfl, hc, hb, h⟩
  · simp at hl; omega
  · refine ⟨_, w, ?_, hk b o ?_ ⟨_, _, _, rfl⟩⟩
    · simp [Instr.arrayAt, hu, show ¬ l.length < n by omega]
    · rw [← List.take_append_drop n l, C.all_append] at h
      exact h.take

def toH (l : List UInt8) : H := if h : l.length = 32 then ⟨l, h⟩ else zeroH
theorem toH_val {l : List UInt8} (h : l.length = 32) : (toH l).1 = l := by rw [toH, dif_pos h]
def hashesOf : Nat → List UInt8 → List H
  | 0, _ => []
  | n + 1, l => toH (l.take 32) :: hashesOf n (l.drop 32)
theorem hashesOf_len : ∀ n l, (hashesOf n l).length = n
  | 0, _ => rfl
  | n + 1, l => by simp [hashesOf, hashesOf_len n]
def nodesE (n : Nat) (s : List UInt8 × Nat) : Nat := failF (decide (32 * n < s.1.length)) 13 (failF (decide (s.1.length < 32 * n)) 11 s.2)
def nodesR (n : Nat) (s : List UInt8 × Nat) : List H := if nodesE n s ≠ 0 then [] else hashesOf n s.1

theorem nodes_ok2 (b : Nat) (v₀ : Value) (l : List UInt8) (e n : Nat) (w : World) (hR : ReadAt w b v₀ l e) (hn : l.length < 1048576) (hnn : n < 1048576) (hnb : ¬ inBlock v₀ b) (hnew : ∀ x, inBlock v₀ x → x < w.heap.size) :
    Does Tryz.prog 85 [pt b, .int .i64 n] w (fun r w' => Grow codHash 24 w.heap.size w' r (nodesR n (l, e)) ∧ (∃ l', ReadAt w' b v₀ l' (nodesE n (l, e))) ∧ Upd b w w') := by
  obtain ⟨v, hO, hv, h1v, hvb⟩ := hR.out
  have hbs' := hO.lt
  (refine DoesX.of_vc tyOk Tryz.func85 rfl ⟨rfl, rfl⟩ rfl ?_; (conv => whnf))
  refine GetP.ld tfBytes (v := v) (by rw [hO.cell]; rfl) ?_
  (conv => whnf)
  refine GetP.lenS Tryz.runUnderlying25 hv ?_
  (conv => whnf)
  refine NumP.to ((32 * n : Nat) : Int) (by rw [wrap_i64]; omega) ?_
  (conv => whnf)
  refine CmpP.of (decide (l.length < 32 * n)) (by rw [Bool.eq_iff_iff]; simp; omega) ?_
  (conv => whnf)
  refine CallP.does (fail_ok b v e 11 _ w hO) ?_
  rintro r w1 ⟨rfl, hO1, hU1⟩
  have hv1 := hv.upd hU1 (fun h => hnb (hvb _ h))
  (conv => whnf)
  refine GetP.ld tfBytes (v := v) (by rw [hO1.cell]; rfl) ?_
  (conv => whnf)
  refine GetP.lenS Tryz.runUnderlying25 hv1 ?_
  (conv => whnf)
  refine NumP.to ((32 * n : Nat) : Int) (by rw [wrap_i64]; omega) ?_
  (conv => whnf)
  refine CmpP.of (decide (32 * n < l.length)) (by rw [Bool.eq_iff_iff]; simp; omega) ?_
  (conv => whnf)
  refine CallP.does (fail_ok b v _ 13 _ w1 hO1) ?_
  rintro r w2 ⟨rfl, hO2, hU2⟩
  have hv2 := hv1.upd hU2 (fun h => hnb (hvb _ h))
  have hU2 := hU1.trans hU2
  have hO2 : Own w2 b (readC v (nodesE n (l, e))) := hO2
  (conv => whnf)
  refine GetP.ld tfErr (v := .int .i64 (nodesE n (l, e) : Nat)) (by rw [hO2.cell]; rfl) ?_
  (conv => whnf)
  refine CmpP.split (fun h => ?_) (fun h => ?_)
  · have hne : nodesE n (l, e) ≠ 0 := by intro h0; simp [h0] at h
    (conv => whnf)
    rw [nodesR, if_pos hne]
    exact ⟨Grow.nil _ _ _ _, ⟨l, v, hO2, hv2, h1v, hvb⟩, hU2⟩
  have h0 : ¬ nodesE n (l, e) ≠ 0 := by
    simp only [bne_eq_false_iff_eq] at h
    omega
  have h00 : nodesE n (l, e) = 0 := by omega
  have hll : l.length = 32 * n := by
    obtain ⟨h1, h2⟩ := failF_zero h00 (by omega)
    obtain ⟨h3, h4⟩ := failF_zero h1 (by omega)
    simp only [decide_eq_false_iff_not] at h2 h4
    omega
  rw [nodesR, if_neg h0]
  clear h
  (conv => whnf)
  have hbs := hO2.lt
  refine loop_only4 tyOk (fun (i : Nat) (r : List UInt8) (v u : Value) => [(0, pt b), (5, u)])
    (fun i r v u w' => Own w' b (readC v (nodesE n (l, e))) ∧ Seq codByte w' v r ∧ (∀ x, inBlock v x → inBlock v₀ x) ∧ Upd b w w' ∧ r.length = 32 * i ∧ ∃ hs : List H, Grow codHash 24 w.heap.size w' u hs ∧ hs ++ hashesOf i r = hashesOf n l ∧ hs.length + i = n) (fun i _ _ _ => i) n l v (.slice none 0 0)
    (by repeat (first | exact trivial | refine ⟨rfl, ?_⟩)) ⟨hO2, hv2, hvb, hU2, hll, [], Grow.nil _ _ _ _, rfl, by simp⟩ ?_
  clear hO2 hv2 hvb hU2 hv1 hO1 hU1 hv hO h1v
  rintro i r v u w3 ⟨hO, hv, hvb, hU, hrl, hs, hG, hhs, hlen⟩
  have hs3 := hU.size
  (conv => whnf)
  refine GetP.ld tfBytes (v := v) (by rw [hO.cell]; rfl) ?_
  (conv => whnf)
  refine GetP.lenS Tryz.runUnderlying25 hv ?_
  (conv => whnf)
  cases i with
  | zero =>
    refine CmpP.no (by simp [hrl]) ?_
    (conv => whnf)
    rw [hashesOf, List.append_nil] at hhs
    rw [← hhs]
    exact ⟨hG, ⟨r, v, hO, hv, seq_one hv, hvb⟩, hU⟩
  | succ i =>
    refine CmpP.yes (by simp [hrl]; omega) ?_
    (conv => whnf)
    refine GetP.ld tfBytes (v := v) (by rw [hO.cell]; rfl) ?_
    (conv => whnf)
    refine RunP.arrayAt Tryz.runUnderlying24 hv (by omega) (by omega) ?_
    intro cb co hc hcb
    have h32 : (r.take 32).length = 32 := by simp; omega
    have hc : CellsAt w3 cb co (H.cells (toH (r.take 32))) := by
      rw [codByte_all] at hc
      unfold H.cells
      rw [toH_val h32]
      exact hc
    (conv => whnf)
    refine GetP.lds tfHash (H.len _) hc ?_
    (conv => whnf)
    refine RunP.slice1 (C := codHash) (a := toH (r.take 32)) Tryz.runUnderlying44 Tryz.sizeOf24 Tryz.zeroValue24 rfl rfl (by decide) ?_
    intro b5 w4 hb5 hO5 hE4 hq4
    have hs4 := hE4.size
    (conv => whnf)
    refine RunP.append elHash (hG.ext hE4) hq4 (by simp only [maxLen, List.length_cons, List.length_nil]; omega) (by simp only [List.length_cons, List.length_nil]; omega) (by omega) ?_
    intro u' w5 hG5 hgr5
    have hB5 := (hG.ext hE4).grown_below hgr5 (by omega)
    have hs5 := hgr5.size
    have hO5 := (hO.ext hE4).below hB5 hbs'
    (conv => whnf)
    refine GetP.ld tfBytes (v := v) (by rw [hO5.cell]; rfl) ?_
    (conv => whnf)
    have hv5 : Seq codByte w5 v r := (hv.ext hE4).kept (hG.ext hE4) hgr5 (fun x hx hx' => by have := hnew x (hvb x hx); have := (hG.block hx').1; omega)
    refine GetP.subS hv5 Tryz.runUnderlying25 Tryz.sizeOf5 32 r.length (.inr ⟨_, rfl⟩) (.inl ⟨rfl, rfl⟩) (by omega) (Nat.le_refl _) ?_
    intro v' hv' hvb'
    rw [List.take_length] at hv'
    (conv => whnf)
    refine DoP.st tfBytes rfl hO5 (by simp [readC]) (seq_one hv') ?_
    intro w6 hO6 hU6
    (conv => whnf)
    refine ⟨i, r.drop 32, v', u', (by repeat (first | exact trivial | refine ⟨rfl, ?_⟩)), ⟨hO6, hv'.upd hU6 (fun h => hnb (hvb _ (hvb' _ h))), fun x hx => hvb x (hvb' x hx), ?_, by simp; omega, hs ++ [toH (r.take 32)], hG5.upd hU6 ?_, ?_, by simp; omega⟩, by omega⟩
    · exact ((hU.trans (Upd.of_ext hE4)).belowR hB5 (Nat.le_refl _)).trans hU6
    · intro h
      have := (hG5.block h).1
      omega
    · rw [← hhs, List.append_assoc]
      rfl
end Go.Proofs.YtgeemplpgfiidaaGreatDoor.Mv
/- proof.DecodePrefix. -/
namespace Go.Proofs.YtgeemplpgfiidaaGreatDoor.Mv
open Go Go.RowKit Go.Proofs

theorem seq_form {α : Type} {C : Cod α} {w : World} {v : Value} {l : List α} (h : Seq C w v l) : ∃ a n c, v = .slice a n c := by
  rcases h with ⟨rfl, _⟩ | ⟨_, _, _, rfl, _⟩ <;> exact ⟨_, _, _, rfl⟩
def decA (l : List UInt8) : Nat × (List UInt8 × Nat) := numF (kindF 80 (l, 0))
def decB (l : List UInt8) : Nat × (List UInt8 × Nat) := numF (decA l).2
def decPl (l : List UInt8) : List Nat × Nat := placesF (decA l).1 (decB l).1
def decE4 (l : List UInt8) : Nat := failF ((decPl l).2 != 0) (decPl l).2 (decB l).2.2
def decE5 (l : List UInt8) : Nat := nodesE (decPl l).1.length ((decB l).2.1, decE4 l)
def decE (l : List UInt8) : Nat := if decE4 l ≠ 0 then decE4 l else decE5 l
def decM (l : List UInt8) : Nat := if decE l ≠ 0 then 0 else (decA l).1
def decN (l : List UInt8) : Nat := if decE l ≠ 0 then 0 else (decB l).1
def decL (l : List UInt8) : List H := if decE l ≠ 0 then [] else nodesR (decPl l).1.length ((decB l).2.1, decE4 l)

theorem decodePrefix_ok (v : Value) (l : List UInt8) (w : World) (hg : Glob w) (hv : Seq codByte w v l) (hn : l.length < 1048576) :
    Does Tryz.prog 38 [v] w (fun r w' => ∃ u, r = .tuple #[prefV (decM l) (decN l) u, .int .i64 (decE l)] ∧ Grow codHash 24 w.heap.size w' u (decL l) ∧ Ext w w') := by
  have hw3 := hg.lt
  obtain ⟨va, vn, vc, rfl⟩ := seq_form hv
  generalize hvv : Value.slice va vn vc = v at hv
  have hk1 : (kindF 80 (l, 0)).1.length ≤ l.length := kindF_len 80 (l, 0)
  have hk2 : (decA l).2.1.length ≤ (kindF 80 (l, 0)).1.length := numF_len (kindF 80 (l, 0))
  have hk3 : (decB l).2.1.length ≤ (decA l).2.1.length := numF_len (decA l).2
  have hk4 : (decA l).1 < 18446744073709551616 := numF_lt (kindF 80 (l, 0))
  have hk5 : (decB l).1 < 18446744073709551616 := numF_lt (decA l).2
  have hk6 := places_len (decA l).1 (decB l).1
  (refine DoesX.of_vc tyOk Tryz.func38 rfl ⟨rfl, rfl⟩ rfl ?_; (conv => whnf))
  refine RunP.new (z := prefV 0 0 (.slice none 0 0)) Tryz.zeroValue55 ?_
  intro b2 w1 hb2 hO2 hE1
  have hs1 := hE1.size
  have hO2 : Own w1 b2 (prefC 0 0 (.slice none 0 0)) := hO2
  (conv => whnf)
  refine GetP.build (cells := (readC v 0).toArray) (by rw [← hvv]; kernel_rfl) ?_
  (conv => whnf)
  refine RunP.box ?_
  intro br w2 hbr hOr hE2
  have hs2 := hE2.size
  have hOr : Own w2 br (readC v 0) := hOr
  have hb2r : b2 < br := by have := hO2.lt; omega
  have hE02 := hE1.trans hE2
  have hnb : ¬ inBlock v br := fun h => by have := hv.lt h; omega
  (conv => whnf)
  refine CallP.does (kind_ok 80 br v l 0 w2 ⟨v, hOr, hv.ext hE02, seq_one hv, fun _ h => h⟩ (by omega) hnb) ?_
  rintro r w3 ⟨hR3, hU3⟩
  have hs3 := hU3.size
  have hOp3 := (hO2.ext hE2).upd hU3 (by omega)
  have hE03 := hE02.upd hU3 (by omega)
  (conv => whnf)
  refine CallP.does (number_ok br v (kindF 80 (l, 0)).1 (kindF 80 (l, 0)).2 w3 hR3 (by omega) hnb) ?_
  rintro r w4 ⟨rfl, hR4, hU4⟩
  have hR4 : ReadAt w4 br v (decA l).2.1 (decA l).2.2 := hR4
  have hs4 := hU4.size
  have hOp4 := hOp3.upd hU4 (by omega)
  have hE04 := hE03.upd hU4 (by omega)
  (conv => whnf)
  refine CallP.does (number_ok br v (decA l).2.1 (decA l).2.2 w4 hR4 (by omega) hnb) ?_
  rintro r w5 ⟨rfl, hR5, hU5⟩
  have hs5 := hU5.size
  have hOp5 := hOp4.upd hU5 (by omega)
  have hE05 := hE04.upd hU5 (by omega)
  have hR5 : ReadAt w5 br v (decB l).2.1 (decB l).2.2 := hR5
  have hlb : (decB l).2.1.length < 1048576 := by omega
  (conv => whnf)
  refine CallP.does (prefixPlaces_ok (decA l).1 (decB l).1 hk4 hk5 w5 (hg.ext hE05)) ?_
  rintro r w6 ⟨vp, rfl, hGp, hE6⟩
  have hs6 := hE6.size
  have hOp6 := hOp5.ext hE6
  have hE06 := hE05.trans hE6
  obtain ⟨v5, hO5, hv5, h15, hvb5⟩ := hR5.out
  (conv => whnf)
  refine CmpP.of ((placesF (decA l).1 (decB l).1).2 != 0) (by rw [Bool.eq_iff_iff]; simp) ?_
  (conv => whnf)
  refine CallP.does (fail_ok br v5 (decB l).2.2 (placesF (decA l).1 (decB l).1).2 _ w6 (hO5.ext hE6)) ?_
  rintro r w7 ⟨rfl, hO7, hU7⟩
  have hs7 := hU7.size
  have hOp7 := hOp6.upd hU7 (by omega)
  have hE07 := hE06.upd hU7 (by omega)
  have hGp7 := hGp.upd hU7 (hGp.inB (.inr (by have := hO5.lt; omega)))
  have hO7 : Own w7 br (readC v5 (decE4 l)) := hO7
  have hv7 := (hv5.ext hE6).upd hU7 (fun h => hnb (hvb5 _ h))
  (conv => whnf)
  refine GetP.ld tfErr (v := .int .i64 (decE4 l : Nat)) (by rw [hO7.cell]; rfl) ?_
  (conv => whnf)
  refine CmpP.split (fun h => ?_) (fun h => ?_)
  · have hne : decE4 l ≠ 0 := by intro h0; simp [h0] at h
    have he : decE l = decE4 l := by rw [decE, if_pos hne]
    (conv => whnf)
    refine draw_with tyOk mixed (.q 0 (.q 1 (.q 2 (.q 3 (.q 4 (.e [(5, .q 6 (.done))])))))) (by kernel_rfl) (fun w' => Own w' br (readC v5 (decE4 l))) (fun w' hx => hO7.ext hx) ?_
    intro w8 hE8 hs8
    (conv => whnf)
    refine GetP.build (cells := (prefC 0 0 (.slice none 0 0)).toArray) (by kernel_rfl) ?_
    (conv => whnf)
    refine GetP.ldS tfErr (v := .int .i64 (decE4 l : Nat)) (fun w' hw' => by rw [hw'.cell]; rfl) ?_
    (conv => whnf)
    refine DoP.sts0 tfPrefix (hOp7.ext hE8) rfl rfl (by intro u hu; simp [prefC] at hu; rcases hu with rfl | rfl <;> rfl) ?_
    intro w9 hO9 hU9
    (conv => whnf)
    (refine BarP.no ?_)
    refine ReqP.mk ((hO7.ext hE8).upd hU9 (by omega)) ?_
    (conv => whnf)
    refine GetP.ress tfPrefix rfl hO9.cells ?_
    (conv => whnf)
    refine ⟨.slice none 0 0, ?_, ?_, (hE07.trans hE8).upd hU9 (by omega)⟩
    · rw [decM, decN, he, if_pos hne, if_pos hne]
      rfl
    · rw [decL, he, if_pos hne]
      exact Grow.nil _ _ _ _
  have h0 : ¬ decE4 l ≠ 0 := by
    simp only [bne_eq_false_iff_eq] at h
    omega
  (conv => whnf)
  refine GetP.lenS Tryz.runUnderlying45 hGp7.seq ?_
  (conv => whnf)
  refine CallP.does (nodes_ok2 br v (decB l).2.1 (decE4 l) (decPl l).1.length w7 ⟨v5, hO7, hv7, h15, hvb5⟩ hlb (by have : (decPl l).1.length ≤ 200 := hk6; omega) hnb (fun x hx => by have := hv.lt hx; omega)) ?_
  rintro r w8 ⟨hG8, ⟨l8, hR8⟩, hU8⟩
  obtain ⟨v8, hO8, hv8, h18, hvb8⟩ := hR8.out
  have hs8 := hU8.size
  have hOp8 := hOp7.upd hU8 (by omega)
  have hE08 := hE07.upd hU8 (by omega)
  have hO8 : Own w8 br (readC v8 (decE5 l)) := hO8
  have he : decE l = decE5 l := by rw [decE, if_neg h0]
  (conv => whnf)
  refine GetP.ld tfErr (v := .int .i64 (decE5 l : Nat)) (by rw [hO8.cell]; rfl) ?_
  (conv => whnf)
  refine CmpP.split (fun h => ?_) (fun h => ?_)
  · have hne : decE5 l ≠ 0 := by intro h0; simp [h0] at h
    (conv => whnf)
    refine draw_with tyOk mixed (.q 0 (.q 1 (.q 2 (.q 3 (.q 4 (.e [(5, .q 6 (.done))])))))) (by kernel_rfl) (fun w' => Own w' br (readC v8 (decE5 l))) (fun w' hx => hO8.ext hx) ?_
    intro w9 hE9 hs9
    (conv => whnf)
    refine GetP.build (cells := (prefC 0 0 (.slice none 0 0)).toArray) (by kernel_rfl) ?_
    (conv => whnf)
    refine GetP.ldS tfErr (v := .int .i64 (decE5 l : Nat)) (fun w' hw' => by rw [hw'.cell]; rfl) ?_
    (conv => whnf)
    refine DoP.sts0 tfPrefix (hOp8.ext hE9) rfl rfl (by intro u hu; simp [prefC] at hu; rcases hu with rfl | rfl <;> rfl) ?_
    intro w10 hO10 hU10
    (conv => whnf)
    (refine BarP.no ?_)
    refine ReqP.mk ((hO8.ext hE9).upd hU10 (by omega)) ?_
    (conv => whnf)
    refine GetP.ress tfPrefix rfl hO10.cells ?_
    (conv => whnf)
    refine ⟨.slice none 0 0, ?_, ?_, (hE08.trans hE9).upd hU10 (by omega)⟩
    · rw [decM, decN, he, if_pos hne, if_pos hne]
      rfl
    · rw [decL, he, if_pos hne]
      exact Grow.nil _ _ _ _
  have h1 : ¬ decE5 l ≠ 0 := by
    simp only [bne_eq_false_iff_eq] at h
    omega
  (conv => whnf)
  obtain ⟨ra, rn, rc, hrr⟩ := seq_form hG8.seq
  refine GetP.build (cells := (prefC (decA l).1 (decB l).1 r).toArray) (by rw [hrr]; kernel_rfl) ?_
  (conv => whnf)
  refine DoP.sts0 tfPrefix hOp8 rfl rfl (by intro u hu; simp [prefC] at hu; rcases hu with rfl | rfl | rfl <;> first | rfl | exact hG8.one) ?_
  intro w9 hO9 hU9
  (conv => whnf)
  refine GetP.ress tfPrefix rfl hO9.cells ?_
  (conv => whnf)
  refine ⟨r, ?_, ?_, hE08.upd hU9 (by omega)⟩
  · rw [decM, decN, he, if_neg h1, if_neg h1]
    have : decE5 l = 0 := by omega
    rw [this]
    rfl
  · rw [decL, he, if_neg h1]
    exact (hG8.mono (by omega)).upd hU9 (fun h => by have := (hG8.block h).1; have := hOp7.lt; omega)
end Go.Proofs.YtgeemplpgfiidaaGreatDoor.Mv
