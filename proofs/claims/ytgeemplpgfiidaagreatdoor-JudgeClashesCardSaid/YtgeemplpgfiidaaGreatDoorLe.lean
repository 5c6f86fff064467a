/- Spans as a plain function. No program in sight. -/
import Derived.Test.YtgeemplpgfiidaaGreatDoorLb
import Derived.Test.YtgeemplpgfiidaaGreatDoorLd
import Derived.Test.YtgeemplpgfiidaaGreatDoorLc
namespace Go.Proofs.YtgeemplpgfiidaaGreatDoor.Mv
open Go

def spanH (a b : Nat) : Nat := min (low a) (len (b - a) - 1)
def spanF (a b : Nat) : List Spot := if a < b then ⟨spanH a b, a / 2 ^ spanH a b⟩ :: spanF (a + 2 ^ spanH a b) b else []
termination_by b - a
decreasing_by have := Nat.two_pow_pos (spanH a b); omega
theorem spanF_nil {a b : Nat} (h : ¬ a < b) : spanF a b = [] := by unfold spanF; rw [if_neg h]
theorem spanF_cons {a b : Nat} (h : a < b) : spanF a b = ⟨spanH a b, a / 2 ^ spanH a b⟩ :: spanF (a + 2 ^ spanH a b) b := by
  conv => lhs; unfold spanF
  rw [if_pos h]

theorem len_pos {d : Nat} (h : 0 < d) : 0 < len d := by
  rcases Nat.eq_zero_or_pos (len d) with h0 | h0
  · have := (len_lt (x := d) (n := 0)).1 (by omega)
    simp at this
    omega
  · exact h0
theorem pow_len {d : Nat} (h : 0 < d) : 2 ^ (len d - 1) ≤ d := by
  have h0 := len_pos h
  rcases Nat.lt_or_ge d (2 ^ (len d - 1)) with h1 | h1
  · have := len_lt.2 h1
    omega
  · exact h1
theorem spanH_le {a b : Nat} (h : a < b) : a + 2 ^ spanH a b ≤ b := by
  have h1 : 2 ^ spanH a b ≤ 2 ^ (len (b - a) - 1) := Nat.pow_le_pow_right (by omega) (Nat.min_le_right _ _)
  have h2 := pow_len (d := b - a) (by omega)
  omega
theorem dvd_lowAux : ∀ n k x, k ≤ n → 2 ^ k ∣ x → k ≤ lowAux n x
  | _, 0, _, _, _ => Nat.zero_le _
  | 0, k + 1, _, h, _ => by omega
  | n + 1, k + 1, x, h, hd => by
    obtain ⟨c, hc⟩ := hd
    have he : x = 2 * (2 ^ k * c) := by rw [hc, Nat.pow_succ]; rw [Nat.mul_comm (2 ^ k) 2, Nat.mul_assoc]
    rw [lowAux, if_neg (by omega)]
    have := dvd_lowAux n k (x / 2) (by omega) ⟨c, by omega⟩
    omega
theorem dvd_low {k x : Nat} (hk : k ≤ 64) (h : 2 ^ k ∣ x) : k ≤ low x := dvd_lowAux 64 k x hk h
theorem low_dvdAux : ∀ n x, 2 ^ lowAux n x ∣ x
  | 0, _ => by simp [lowAux]
  | n + 1, x => by
    rw [lowAux]
    split
    · simp
    · have := low_dvdAux n (x / 2)
      rw [Nat.pow_succ]
      have he : x = x / 2 * 2 := by omega
      conv => rhs; rw [he]
      exact Nat.mul_dvd_mul_right this 2
theorem low_dvd (x : Nat) : 2 ^ low x ∣ x := low_dvdAux 64 x

def rank (a b : Nat) : Nat := if len (b - a) ≤ low a then len (b - a) else 128 - low a
theorem len_le {d n : Nat} (h : d < 2 ^ n) : len d ≤ n := len_lt.2 h

/-- Behind a step down the rest is smaller, and begins at a multiple. -/
theorem step_down {a b : Nat} (h : a < b) (hd : len (b - a) ≤ low a) : spanH a b = len (b - a) - 1 ∧ len (b - (a + 2 ^ spanH a b)) ≤ len (b - a) - 1 ∧ 2 ^ (len (b - a) - 1) ∣ a + 2 ^ spanH a b := by
  have h0 := len_pos (d := b - a) (by omega)
  have e : spanH a b = len (b - a) - 1 := by unfold spanH; omega
  have h1 := pow_len (d := b - a) (by omega)
  have h2 : b - a < 2 ^ len (b - a) := len_lt.1 (Nat.le_refl _)
  have h3 : 2 ^ len (b - a) = 2 * 2 ^ (len (b - a) - 1) := by
    conv => lhs; rw [show len (b - a) = (len (b - a) - 1) + 1 by omega]
    rw [Nat.pow_succ, Nat.mul_comm]
  refine ⟨e, ?_, ?_⟩
  · rw [e]
    exact len_le (by omega)
  · rw [e]
    exact Nat.dvd_add (Nat.dvd_trans (Nat.pow_dvd_pow 2 (by omega)) (low_dvd a)) (Nat.dvd_refl _)

theorem span_len (b : Nat) (hb : b ≤ 4611686018427387904) : ∀ d a, b - a = d → (spanF a b).length ≤ rank a b := by
  intro d
  induction d using Nat.strongRecOn with
  | ind d ih =>
    intro a hd
    by_cases h : a < b
    · rw [spanF_cons h, List.length_cons]
      have hp := Nat.two_pow_pos (spanH a b)
      have hle := spanH_le h
      have hi := ih (b - (a + 2 ^ spanH a b)) (by omega) _ rfl
      have hl63 : len (b - a) ≤ 63 := len_le (by omega)
      have h0 := len_pos (d := b - a) (by omega)
      by_cases hc : len (b - a) ≤ low a
      · obtain ⟨e, h1, h2⟩ := step_down h hc
        have h3 := dvd_low (k := len (b - a) - 1) (by omega) h2
        have : rank (a + 2 ^ spanH a b) b = len (b - (a + 2 ^ spanH a b)) := by unfold rank; rw [if_pos (by omega)]
        have : rank a b = len (b - a) := by unfold rank; rw [if_pos hc]
        omega
      · have e : spanH a b = low a := by unfold spanH; omega
        have ha : 0 < a := by
          rcases Nat.eq_zero_or_pos a with rfl | h
          · have : low 0 = 64 := by decide
            omega
          · exact h
        obtain ⟨q, hq⟩ := low_split ha (by omega)
        have h3 : low a + 1 ≤ low (a + 2 ^ spanH a b) := by
          refine dvd_low (by omega) ?_
          rw [e]
          refine ⟨q + 1, ?_⟩
          conv => lhs; arg 1; rw [hq]
          rw [Nat.pow_succ, Nat.mul_add, Nat.mul_one, Nat.mul_add, Nat.mul_one, ← Nat.mul_assoc]
          omega
        have h4 : len (b - (a + 2 ^ spanH a b)) ≤ 63 := len_le (by omega)
        have : rank a b = 128 - low a := by unfold rank; rw [if_neg hc]
        have : rank (a + 2 ^ spanH a b) b ≤ 127 - low a := by
          unfold rank
          split <;> omega
        omega
    · rw [spanF_nil h]
      exact Nat.zero_le _
theorem span_le (a b : Nat) (hb : b ≤ 4611686018427387904) : (spanF a b).length ≤ 128 := by
  have h := span_len b hb _ a rfl
  have : len (b - a) ≤ 63 := len_le (by omega)
  have : rank a b ≤ 128 := by unfold rank; split <;> omega
  omega

theorem ones_top {d : Nat} (h : 0 < d) : ones d = ones (d - 2 ^ (len d - 1)) + 1 := by
  have h1 := pow_len h
  have h2 : d < 2 ^ len d := len_lt.1 (Nat.le_refl _)
  have h0 := len_pos h
  have h3 : 2 ^ len d = 2 * 2 ^ (len d - 1) := by
    conv => lhs; rw [show len d = (len d - 1) + 1 by omega]
    rw [Nat.pow_succ, Nat.mul_comm]
  have h4 := ones_add (len d - 1) (d - 2 ^ (len d - 1)) 1 (by omega)
  rw [show d - 2 ^ (len d - 1) + 2 ^ (len d - 1) * 1 = d by omega] at h4
  rw [h4]
  have : ones 1 = 1 := by rw [ones_step]; simp [ones_zero]
  omega

/-- From a multiple on, one spot a bit. -/
theorem span_ones (b : Nat) : ∀ d a, b - a = d → len (b - a) ≤ 64 → 2 ^ len (b - a) ∣ a → (spanF a b).length = ones (b - a) := by
  intro d
  induction d using Nat.strongRecOn with
  | ind d ih =>
    intro a hd hl hdv
    by_cases h : a < b
    · have hc := dvd_low hl hdv
      obtain ⟨e, h1, h2⟩ := step_down h hc
      have hp := Nat.two_pow_pos (spanH a b)
      rw [spanF_cons h, List.length_cons, ih (b - (a + 2 ^ spanH a b)) (by omega) _ rfl (by omega) (Nat.dvd_trans (Nat.pow_dvd_pow 2 h1) h2), ones_top (d := b - a) (by omega), ← e]
      rw [show b - (a + 2 ^ spanH a b) = b - a - 2 ^ spanH a b by omega]
    · rw [spanF_nil h, show b - a = 0 by omega, ones_zero]
      rfl
theorem span_zero (b : Nat) (hb : b ≤ 4611686018427387904) : (spanF 0 b).length = ones b := by
  have := span_ones b b 0 rfl (by have : len (b - 0) ≤ 63 := len_le (by omega); omega) (Nat.dvd_zero _)
  simpa using this
end Go.Proofs.YtgeemplpgfiidaaGreatDoor.Mv
/- pos and cut: places, peaks, spans. -/
namespace Go.Proofs.YtgeemplpgfiidaaGreatDoor.Mv
open Go Go.RowKit Go.Proofs

def nodesF (n : Nat) : Nat := 2 * n - ones n
def placeF (s : Spot) : Option Nat := if s.h > 62 ∨ 2 ^ 62 / 2 ^ s.h ≤ s.i then none else some (nodesF ((s.i + 1) * 2 ^ s.h - 1) + s.h)
theorem ones_le : ∀ n, ones n ≤ n := by
  intro n
  induction n using Nat.strongRecOn with
  | ind n ih =>
    rw [ones_step]
    rcases Nat.eq_zero_or_pos n with rfl | h
    · simp [ones_zero]
    · have := ih (n / 2) (by omega)
      omega

theorem nodes_ok (n : Nat) (hn : n < 9223372036854775808) (w : World) : Does Tryz.prog 151 [.int .u64 n] w (fun v w' => w' = w ∧ v = .int .u64 (nodesF n : Nat)) := by
  have h1 := ones_le n
  (refine DoesX.of_vc tyOk Tryz.func151 rfl ⟨rfl, rfl⟩ rfl ?_; (conv => whnf))
  refine NumP.to ((2 * n : Nat) : Int) (by rw [wrap_u64]; omega) ?_
  (conv => whnf)
  refine CallP.does (ones_ok n (by omega) w) ?_
  rintro v w ⟨rfl, rfl⟩
  (conv => whnf)
  refine NumP.to ((ones n : Nat) : Int) (by rw [wrap_u64]; omega) ?_
  (conv => whnf)
  refine NumP.to ((nodesF n : Nat) : Int) (by unfold nodesF; rw [wrap_u64]; omega) ?_
  (conv => whnf)
  exact ⟨rfl, rfl⟩

structure Spot.Fits (s : Spot) : Prop where
  h : s.h < 256
  i : s.i < 18446744073709551616
theorem tfSpot : TyF Tryz.prog 159 true 2 := ⟨Tryz.isAgg159, Tryz.sizeOf159⟩

theorem place_in {s : Spot} (h : ¬ s.h > 62) (hi : s.i < 2 ^ 62 / 2 ^ s.h) : (s.i + 1) * 2 ^ s.h ≤ 2 ^ 62 := by
  have h1 : (s.i + 1) * 2 ^ s.h ≤ 2 ^ 62 / 2 ^ s.h * 2 ^ s.h := Nat.mul_le_mul_right _ hi
  exact Nat.le_trans h1 (Nat.div_mul_le_self _ _)

def placeV (s : Spot) : Value := .tuple #[.int .u64 ((placeF s).getD 0 : Nat), .bool (placeF s).isSome]

theorem place_ok (s : Spot) (hs : s.Fits) (w : World) : Does Tryz.prog 108 [Spot.val s] w (fun v w' => v = placeV s ∧ Ext w w') := by
  have hh := hs.h
  have hi := hs.i
  (refine DoesX.of_vc tyOk Tryz.func108 rfl ⟨rfl, rfl⟩ rfl ?_; (conv => whnf))
  refine RunP.box ?_
  intro b w1 hb hO hE
  have hO : Own w1 b [.int .u8 s.h, .int .u64 s.i] := hO
  (conv => whnf)
  refine GetP.ld tfU8 (v := .int .u8 s.h) (by rw [hO.cell]; rfl) ?_
  (conv => whnf)
  refine CmpP.split (fun h => ?_) (fun h => ?_)
  · have h62 : s.h > 62 := by simp at h; omega
    (conv => whnf)
    refine ⟨?_, hE⟩
    simp [placeV, placeF, h62]
  · have h62 : ¬ s.h > 62 := by simp at h; omega
    (conv => whnf)
    refine GetP.ld tfU64 (v := .int .u64 s.i) (by rw [hO.cell]; rfl) ?_
    (conv => whnf)
    refine GetP.ld tfU8 (v := .int .u8 s.h) (by rw [hO.cell]; rfl) ?_
    (conv => whnf)
    (refine ReqP.mk (by first | decide | omega | (constructor <;> omega)) ?_; (conv => whnf))
    rw [show shrV .u64 4611686018427387904 (s.h : Int) = ((2 ^ 62 / 2 ^ s.h : Nat) : Int) from shr64 (2 ^ 62) s.h (by decide)]
    refine CmpP.split (fun h => ?_) (fun h => ?_)
    · have hge : 2 ^ 62 / 2 ^ s.h ≤ s.i := by simp only [decide_eq_true_eq] at h; omega
      (conv => whnf)
      refine ⟨?_, hE⟩
      simp only [placeV, placeF, hge, or_true, if_true]
      rfl
    · have hlt : s.i < 2 ^ 62 / 2 ^ s.h := by simp only [decide_eq_false_iff_not] at h; omega
      have hin := place_in h62 hlt
      (conv => whnf)
      refine draw_still tyOk mixed (.q 0 (.q 1 (.q 2 (.q 3 (.q 4 (.q 5 (.q 6 (.q 8 (.q 9 (.q 10 (.e [(7, .q 11 (.q 12 (.q 13 (.done))))]))))))))))) (by kernel_rfl) ?_
      intro w2 hB hs2
      have hO := hO.ext hB
      have hE := hE.trans hB
      clear hB
      (conv => whnf)
      have hp := Nat.two_pow_pos s.h
      have hsi : s.i + 1 ≤ 2 ^ 62 := Nat.le_trans (Nat.le_mul_of_pos_right _ hp) hin
      have hps : placeF s = some (nodesF ((s.i + 1) * 2 ^ s.h - 1) + s.h) := by
        unfold placeF
        rw [if_neg (by omega)]
      refine GetP.ld tfU64 (v := .int .u64 s.i) (by rw [hO.cell]; rfl) ?_
      (conv => whnf)
      refine NumP.to ((s.i + 1 : Nat) : Int) (by rw [wrap_u64]; omega) ?_
      (conv => whnf)
      refine GetP.ld tfU8 (v := .int .u8 s.h) (by rw [hO.cell]; rfl) ?_
      (conv => whnf)
      (refine ReqP.mk (by first | decide | omega | (constructor <;> omega)) ?_; (conv => whnf))
      rw [show shlV .u64 ((s.i + 1 : Nat) : Int) (s.h : Int) = (((s.i + 1) * 2 ^ s.h % 18446744073709551616 : Nat) : Int) from shl64 _ _]
      rw [Nat.mod_eq_of_lt (by omega)]
      have hpos : 1 ≤ (s.i + 1) * 2 ^ s.h := Nat.mul_pos (by omega) hp
      refine NumP.to (((s.i + 1) * 2 ^ s.h - 1 : Nat) : Int) (by rw [wrap_u64]; omega) ?_
      (conv => whnf)
      refine GetP.ld tfU8 (v := .int .u8 s.h) (by rw [hO.cell]; rfl) ?_
      (conv => whnf)
      refine NumP.to ((s.h : Nat) : Int) (by rw [wrap_u64]; omega) ?_
      (conv => whnf)
      have hn1 := ones_le ((s.i + 1) * 2 ^ s.h - 1)
      refine CallP.does (nodes_ok _ (by omega) w2) ?_
      rintro v w2 ⟨rfl, rfl⟩
      (conv => whnf)
      (refine BarP.no (ReqP.mk rfl ?_); (conv => whnf))
      have hnl : nodesF ((s.i + 1) * 2 ^ s.h - 1) ≤ 2 * ((s.i + 1) * 2 ^ s.h - 1) := Nat.sub_le _ _
      refine NumP.to ((nodesF ((s.i + 1) * 2 ^ s.h - 1) + s.h : Nat) : Int) (by rw [wrap_u64]; omega) ?_
      (conv => whnf)
      refine ⟨?_, hE⟩
      simp [placeV, hps]

/-! Peaks -/
def peaksAux : Nat → Nat → List Nat
  | 0, _ => []
  | h + 1, n => (if n / 2 ^ h % 2 = 1 then [(placeF ⟨h, n / 2 ^ h - 1⟩).getD 0] else []) ++ peaksAux h n
def peaksF (n : Nat) : List Nat := peaksAux 63 n
theorem peaksF_eq (n : Nat) : peaksAux 63 n = peaksF n := by unfold peaksF; rfl
theorem peaksAux_len : ∀ k n, (peaksAux k n).length = ones (n % 2 ^ k)
  | 0, n => by simp [peaksAux, Nat.mod_one, ones_zero]
  | h + 1, n => by
    have hp := Nat.two_pow_pos h
    have e : n % 2 ^ (h + 1) = n % 2 ^ h + 2 ^ h * (n / 2 ^ h % 2) := by
      rw [Nat.pow_succ, Nat.mod_mul]
    rw [peaksAux, List.length_append, peaksAux_len h n, e, ones_add h _ _ (Nat.mod_lt _ hp)]
    rcases Nat.mod_two_eq_zero_or_one (n / 2 ^ h) with h0 | h1
    · rw [h0]; simp [ones_zero]
    · rw [h1]; simp [ones_step 1, ones_zero]; omega
theorem peaks_len (n : Nat) (h : n ≤ 4611686018427387904) : (peaksF n).length = ones n := by
  unfold peaksF
  rw [peaksAux_len, Nat.mod_eq_of_lt (by omega)]

theorem elU64 : ElF Tryz.prog 45 22 codU64 8 := ⟨Tryz.underlying45, ⟨Tryz.t22, .int .u64 0, by kernel_rfl, by kernel_rfl, by kernel_rfl, by kernel_rfl, by kernel_rfl⟩⟩

theorem ones_le63 (n : Nat) (h : n ≤ 4611686018427387904) : ones n ≤ 63 := by
  rw [← peaks_len n h]
  have : ∀ k, (peaksAux k n).length ≤ k := by
    intro k
    induction k with
    | zero => simp [peaksAux]
    | succ k ih => rw [peaksAux, List.length_append]; split <;> simp <;> omega
  exact this 63

theorem bit_val (n h : Nat) (hn : n ≤ 4611686018427387904) : bitsV .and .u64 ((n / 2 ^ h : Nat) : Int) 1 = ((n / 2 ^ h % 2 : Nat) : Int) := by
  have hdl : n / 2 ^ h ≤ n := Nat.div_le_self _ _
  rw [show bitsV .and .u64 ((n / 2 ^ h : Nat) : Int) 1 = ((n / 2 ^ h &&& 1 : Nat) : Int) from and64 _ 1 (by omega) (by omega)]
  rw [show n / 2 ^ h &&& 1 = n / 2 ^ h % 2 ^ 1 from Nat.and_two_pow_sub_one_eq_mod _ 1]

theorem peaks_ok (n : Nat) (hn : n ≤ 4611686018427387904) (w : World) : Does Tryz.prog 74 [.int .u64 n] w (fun v w' => Grow codU64 22 w.heap.size w' v (peaksF n) ∧ Below w.heap.size w w') := by
  (refine DoesX.of_vc tyOk Tryz.func74 rfl ⟨rfl, rfl⟩ rfl ?_; (conv => whnf))
  refine loop_only3 tyOk (fun (k : Nat) (_ : List Nat) (v : Value) => [(0, .int .u64 n), (4, .int .i64 ((k : Int) - 1)), (3, v)]) (fun k l v w' => Grow codU64 22 w.heap.size w' v l ∧ Below w.heap.size w w' ∧ l ++ peaksAux k n = peaksF n ∧ k ≤ 63 ∧ l.length ≤ 63 - k) (fun k _ _ => k) 63 [] (.slice none 0 0)
    (by repeat (first | exact trivial | refine ⟨rfl, ?_⟩)) ⟨Grow.nil _ _ _ _, Below.refl _ _, (List.nil_append _).trans (peaksF_eq n), by omega, by simp⟩ ?_
  rintro k l v w1 ⟨hG, hB, hl, hk, hll⟩
  have hs1 := hB.size
  cases k with
  | zero =>
    (conv => whnf)
    refine CmpP.no (by decide) ?_
    (conv => whnf)
    refine ⟨?_, hB⟩
    rw [← hl]
    simpa [peaksAux] using hG
  | succ h =>
    (conv => whnf)
    (refine CmpP.yes (by first | decide | (simp; done) | (simp; omega)) ?_; (conv => whnf))
    (refine CmpP.yes (by first | decide | (simp; done) | (simp; omega)) ?_; (conv => whnf))
    rw [show ((h + 1 : Nat) : Int) - 1 = (h : Int) by omega]
    (refine ReqP.mk (by first | decide | omega | (constructor <;> omega)) ?_; (conv => whnf))
    rw [show shrV .u64 (n : Int) (h : Int) = ((n / 2 ^ h : Nat) : Int) from shr64 n h (by omega), bit_val n h hn]
    have hdl : n / 2 ^ h ≤ n := Nat.div_le_self _ _
    refine CmpP.split (fun hb => ?_) (fun hb => ?_)
    · have hb : n / 2 ^ h % 2 = 1 := by simp only [beq_iff_eq] at hb; omega
      (conv => whnf)
      refine NumP.to ((h : Nat) : Int) (by rw [wrap_u8]; omega) ?_
      (conv => whnf)
      (refine ReqP.mk (by first | decide | omega | (constructor <;> omega)) ?_; (conv => whnf))
      rw [show shrV .u64 (n : Int) (h : Int) = ((n / 2 ^ h : Nat) : Int) from shr64 n h (by omega)]
      refine NumP.to ((n / 2 ^ h - 1 : Nat) : Int) (by rw [wrap_u64]; clear hl hG; generalize n / 2 ^ h = q at *; omega) ?_
      (conv => whnf)
      refine GetP.build (cells := (Spot.cells ⟨h, n / 2 ^ h - 1⟩).toArray) (by kernel_rfl) ?_
      (conv => whnf)
      refine CallP.does (place_ok ⟨h, n / 2 ^ h - 1⟩ ⟨by show h < 256; omega, by show n / 2 ^ h - 1 < _; omega⟩ w1) ?_
      rintro r w2 ⟨rfl, hE2⟩
      have hs2 := hE2.size
      (conv => whnf)
      refine RunP.slice1 (C := codU64) (a := (placeF ⟨h, n / 2 ^ h - 1⟩).getD 0) Tryz.runUnderlying45 Tryz.sizeOf22 Tryz.zeroValue22 rfl rfl (by decide) ?_
      intro b5 w3 hb5 hO5 hE3 hq5
      have hs3 := hE3.size
      (conv => whnf)
      refine RunP.append elU64 ((hG.ext hE2).ext hE3) hq5 (by simp only [maxLen, List.length_cons, List.length_nil]; omega) (by simp only [List.length_cons, List.length_nil]; omega) (by omega) ?_
      intro v' w4 hG4 hgr
      (conv => whnf)
      refine NumP.to ((h : Int) - 1) (by rw [wrap_i64]; omega) ?_
      (conv => whnf)
      refine ⟨h, l ++ [(placeF ⟨h, n / 2 ^ h - 1⟩).getD 0], v', (by repeat (first | exact trivial | refine ⟨rfl, ?_⟩)), ⟨hG4, ?_, ?_, by omega, ?_⟩, by omega⟩
      · exact Below.trans (below_ext (below_ext hB hE2 hs1) hE3 (by omega)) (((hG.ext hE2).ext hE3).grown_below hgr (by omega))
      · rw [← hl, peaksAux, if_pos hb, List.append_assoc]
      · simp only [List.length_append, List.length_cons, List.length_nil]; omega
    · have hb : ¬ n / 2 ^ h % 2 = 1 := by simp only [beq_eq_false_iff_ne, ne_eq] at hb; omega
      (conv => whnf)
      refine NumP.to ((h : Int) - 1) (by rw [wrap_i64]; omega) ?_
      (conv => whnf)
      refine ⟨h, l, v, (by repeat (first | exact trivial | refine ⟨rfl, ?_⟩)), ⟨hG, hB, ?_, by omega, by omega⟩, by omega⟩
      rw [← hl, peaksAux, if_neg hb, List.nil_append]

/-! Span -/
theorem elSpot : ElF Tryz.prog 155 159 codSpot 16 := ⟨Tryz.underlying155, ⟨Tryz.t159, Spot.val ⟨0, 0⟩, by kernel_rfl, by kernel_rfl, by kernel_rfl, by kernel_rfl, by kernel_rfl⟩⟩
theorem span_ok (a b : Nat) (ha : a ≤ 4611686018427387904) (hb : b ≤ 4611686018427387904) (w : World) (hg : Glob w) : Does Tryz.prog 86 [.int .u64 a, .int .u64 b] w (fun v w' => Grow codSpot 159 w.heap.size w' v (spanF a b) ∧ Below w.heap.size w w') := by
  have hspan := span_le a b hb
  have hw3 := hg.lt
  (refine DoesX.of_vc tyOk Tryz.func86 rfl ⟨rfl, rfl⟩ rfl ?_; (conv => whnf))
  (refine CmpP.no (by first | decide | (simp; done) | (simp; omega)) ?_; (conv => whnf))
  refine loop_only3 tyOk (fun (a : Nat) (_ : List Spot) (v : Value) => [(0, .int .u64 a), (1, .int .u64 b), (5, v)]) (fun a' l v w' => Grow codSpot 159 w.heap.size w' v l ∧ Below w.heap.size w w' ∧ l ++ spanF a' b = spanF a b ∧ a' ≤ 4611686018427387904) (fun a _ _ => b - a) a [] (.slice none 0 0)
    (by repeat (first | exact trivial | refine ⟨rfl, ?_⟩)) ⟨Grow.nil _ _ _ _, Below.refl _ _, List.nil_append _, ha⟩ ?_
  rintro a' l v w1 ⟨hG, hB, hl, ha'⟩
  have hs1 := hB.size
  (conv => whnf)
  refine CmpP.split (fun h => ?_) (fun h => ?_)
  · have hlt : a' < b := by simp only [decide_eq_true_eq] at h; omega
    have hll : l.length + 1 ≤ 128 := by
      have := congrArg List.length hl
      rw [spanF_cons hlt, List.length_append, List.length_cons] at this
      omega
    have hstep := spanH_le hlt
    have hp := Nat.two_pow_pos (spanH a' b)
    have hlen0 := len_pos (d := b - a') (by omega)
    have hl63 : len (b - a') ≤ 63 := len_le (by omega)
    have hh : spanH a' b ≤ 62 := Nat.le_trans (Nat.min_le_right _ _) (by omega)
    have hlow := low_le a'
    (conv => whnf)
    refine CallP.does (low_ok a' (by omega) w1 (hg.below hB hw3)) ?_
    rintro r w1 ⟨rfl, rfl⟩
    (conv => whnf)
    refine NumP.to ((b - a' : Nat) : Int) (by rw [wrap_u64]; omega) ?_
    (conv => whnf)
    refine CallP.does (high_ok (b - a') (by omega) w1) ?_
    rintro r w1 ⟨rfl, rfl⟩
    (conv => whnf)
    refine GetP.min2 ?_
    have hmin : (if high (b - a') < (low a' : Int) then high (b - a') else (low a' : Int)) = (spanH a' b : Nat) := by
      unfold spanH high
      split <;> omega
    rw [hmin]
    (conv => whnf)
    refine NumP.to ((spanH a' b : Nat) : Int) (by rw [wrap_u8]; omega) ?_
    (conv => whnf)
    (refine ReqP.mk (by first | decide | omega | (constructor <;> omega)) ?_; (conv => whnf))
    rw [show shrV .u64 (a' : Int) (spanH a' b : Int) = ((a' / 2 ^ spanH a' b : Nat) : Int) from shr64 a' _ (by omega)]
    refine GetP.build (cells := (Spot.cells ⟨spanH a' b, a' / 2 ^ spanH a' b⟩).toArray) (by kernel_rfl) ?_
    (conv => whnf)
    refine RunP.slice1 (C := codSpot) (a := ⟨spanH a' b, a' / 2 ^ spanH a' b⟩) Tryz.runUnderlying155 Tryz.sizeOf159 Tryz.zeroValue159 rfl rfl (by decide) ?_
    intro b5 w3 hb5 hO5 hE3 hq5
    have hs3 := hE3.size
    (conv => whnf)
    refine RunP.append elSpot (hG.ext hE3) hq5 (by simp only [maxLen, List.length_cons, List.length_nil]; omega) (by simp only [List.length_cons, List.length_nil]; omega) (by omega) ?_
    intro v' w4 hG4 hgr
    (conv => whnf)
    (refine ReqP.mk (by first | decide | omega | (constructor <;> omega)) ?_; (conv => whnf))
    rw [show shlV .u64 1 (spanH a' b : Int) = ((1 * 2 ^ spanH a' b % 18446744073709551616 : Nat) : Int) from shl64 1 _]
    rw [Nat.one_mul, Nat.mod_eq_of_lt (by omega)]
    refine NumP.to ((a' + 2 ^ spanH a' b : Nat) : Int) (by rw [wrap_u64]; generalize 2 ^ spanH a' b = q at *; omega) ?_
    (conv => whnf)
    refine ⟨a' + 2 ^ spanH a' b, l ++ [⟨spanH a' b, a' / 2 ^ spanH a' b⟩], v', (by repeat (first | exact trivial | refine ⟨rfl, ?_⟩)), ⟨hG4, ?_, ?_, by omega⟩, by omega⟩
    · exact Below.trans (below_ext hB hE3 hs1) ((hG.ext hE3).grown_below hgr (by omega))
    · rw [← hl, List.append_assoc]
      conv => rhs; rw [spanF_cons hlt]
      rfl
  · have hge : ¬ a' < b := by simp only [decide_eq_false_iff_not] at h; omega
    (conv => whnf)
    rw [spanF_nil hge, List.append_nil] at hl
    rw [← hl]
    exact ⟨hG, hB⟩
end Go.Proofs.YtgeemplpgfiidaaGreatDoor.Mv
/- cut: under, Over, the pile, Merge. -/
namespace Go.Proofs.YtgeemplpgfiidaaGreatDoor.Mv
open Go Go.RowKit Go.Proofs

def underF (s : Spot) : Option (Nat × Nat) := if (placeF s).isSome then some (s.i * 2 ^ s.h, (s.i + 1) * 2 ^ s.h) else none
def underV (s : Spot) : Value := .tuple #[.int .u64 ((underF s).getD (0, 0)).1, .int .u64 ((underF s).getD (0, 0)).2, .bool (underF s).isSome]

theorem under_ok (s : Spot) (hs : s.Fits) (w : World) : Does Tryz.prog 169 [Spot.val s] w (fun v w' => v = underV s ∧ Ext w w') := by
  (refine DoesX.of_vc tyOk Tryz.func169 rfl ⟨rfl, rfl⟩ rfl ?_; (conv => whnf))
  refine RunP.box ?_
  intro b w1 hb hO hE
  have hO : Own w1 b [.int .u8 s.h, .int .u64 s.i] := hO
  (conv => whnf)
  refine GetP.lds tfSpot (cs := Spot.cells s) rfl hO.cells ?_
  (conv => whnf)
  refine CallP.does (place_ok s hs w1) ?_
  rintro r w2 ⟨rfl, hE2⟩
  have hO := hO.ext hE2
  have hE := hE.trans hE2
  clear hE2
  cases hp : placeF s with
  | none =>
    simp only [placeV, hp, Option.isSome_none]
    (conv => whnf)
    refine ⟨?_, hE⟩
    simp [underV, underF, hp]
  | some p =>
    simp only [placeV, hp, Option.isSome_some]
    have hin : (s.i + 1) * 2 ^ s.h ≤ 2 ^ 62 := by
      unfold placeF at hp
      split at hp
      · cases hp
      · rename_i h
        exact place_in (by omega) (by omega)
    have hp2 := Nat.two_pow_pos s.h
    have hsi : s.i + 1 ≤ 2 ^ 62 := Nat.le_trans (Nat.le_mul_of_pos_right _ hp2) hin
    have hin0 : s.i * 2 ^ s.h ≤ (s.i + 1) * 2 ^ s.h := Nat.mul_le_mul_right _ (by omega)
    (conv => whnf)
    refine draw_still tyOk mixed (.q 0 (.q 1 (.q 2 (.q 3 (.q 4 (.q 5 (.q 6 (.q 7 (.q 8 (.q 9 (.q 10 (.q 11 (.q 12 (.q 13 (.done))))))))))))))) (by kernel_rfl) ?_
    intro w3 hB hs3
    have hO := hO.ext hB
    have hE := hE.trans hB
    clear hB
    (conv => whnf)
    refine GetP.ld tfU64 (v := .int .u64 s.i) (by rw [hO.cell]; rfl) ?_
    (conv => whnf)
    refine GetP.ld tfU8 (v := .int .u8 s.h) (by rw [hO.cell]; rfl) ?_
    (conv => whnf)
    (refine ReqP.mk (by first | decide | omega | (constructor <;> omega)) ?_; (conv => whnf))
    rw [show shlV .u64 (s.i : Int) (s.h : Int) = ((s.i * 2 ^ s.h % 18446744073709551616 : Nat) : Int) from shl64 _ _, Nat.mod_eq_of_lt (by omega)]
    refine GetP.ld tfU64 (v := .int .u64 s.i) (by rw [hO.cell]; rfl) ?_
    (conv => whnf)
    refine NumP.to ((s.i + 1 : Nat) : Int) (by rw [wrap_u64]; omega) ?_
    (conv => whnf)
    refine GetP.ld tfU8 (v := .int .u8 s.h) (by rw [hO.cell]; rfl) ?_
    (conv => whnf)
    (refine ReqP.mk (by first | decide | omega | (constructor <;> omega)) ?_; (conv => whnf))
    refine ⟨?_, hE⟩
    rw [show shlV .u64 ((s.i + 1 : Nat) : Int) (s.h : Int) = (((s.i + 1) * 2 ^ s.h % 18446744073709551616 : Nat) : Int) from shl64 _ _, Nat.mod_eq_of_lt (by omega)]
    simp [underV, underF, hp]

/-- The span that spots lie over. -/
def overAux : Nat → Nat → Nat → List Spot → Option (Nat × Nat)
  | _, a, b, [] => some (a, b)
  | i, a, b, s :: r => match underF s with
    | none => none
    | some (x, y) => if 0 < i ∧ x ≠ b then none else overAux (i + 1) (if i = 0 then x else a) y r
def overF (l : List Spot) : Option (Nat × Nat) := if l = [] then none else overAux 0 0 0 l
def overV (l : List Spot) : Value := .tuple #[.int .u64 ((overF l).getD (0, 0)).1, .int .u64 ((overF l).getD (0, 0)).2, .bool (overF l).isSome]

theorem over_ok (v : Value) (l : List Spot) (w : World) (hv : Seq codSpot w v l) (hf : ∀ s ∈ l, s.Fits) (hn : l.length < 1152921504606846976) :
    Does Tryz.prog 134 [v] w (fun r w' => r = overV l ∧ Ext w w') := by
  (refine DoesX.of_vc tyOk Tryz.func134 rfl ⟨rfl, rfl⟩ rfl ?_; (conv => whnf))
  refine GetP.lenS Tryz.runUnderlying155 hv ?_
  (conv => whnf)
  refine loop_only3 tyOk (fun (i a b : Nat) => [(14, .int .i64 i), (5, .int .u64 a), (6, .int .u64 b), (0, v), (12, v), (13, .int .i64 l.length)]) (fun i a b w' => Ext w w' ∧ overAux i a b (l.drop i) = overAux 0 0 0 l ∧ i ≤ l.length) (fun i _ _ => l.length - i) 0 0 0
    (by repeat (first | exact trivial | refine ⟨rfl, ?_⟩)) ⟨Ext.refl _, by rw [List.drop_zero], by omega⟩ ?_
  rintro i a b w1 ⟨hE, ho, hi⟩
  (conv => whnf)
  refine CmpP.split (fun h => ?_) (fun h => ?_)
  · have hlt : i < l.length := by simp only [decide_eq_true_eq] at h; omega
    have hd : l.drop i = l[i] :: l.drop (i + 1) := List.drop_eq_getElem_cons hlt
    have hfi := hf l[i] (List.getElem_mem hlt)
    have hne : l ≠ [] := by intro e; rw [e] at hlt; simp at hlt
    have hov : overF l = overAux 0 0 0 l := by unfold overF; rw [if_neg hne]
    rw [hd, overAux] at ho
    (conv => whnf)
    refine GetP.idxS Tryz.runUnderlying155 Tryz.sizeOf159 (hv.ext hE) (by omega) (by simpa using hlt) ?_
    intro eb eo hc
    (conv => whnf)
    refine GetP.lds tfSpot (cs := Spot.cells l[i]) rfl hc ?_
    (conv => whnf)
    refine RunP.new (z := Spot.val ⟨0, 0⟩) Tryz.zeroValue159 ?_
    intro b8 w2 hb8 hO8 hE2
    (conv => whnf)
    refine DoP.sts0 tfSpot hO8 rfl rfl (codSpot.one l[i]) ?_
    intro w3 hO3 hU3
    have hE3 : Ext w w3 := below_upd (hE.trans hE2) hU3 (by have := hE.size; omega) (by have := hE.size; have := hE2.size; omega)
    (conv => whnf)
    refine GetP.lds tfSpot (cs := Spot.cells l[i]) rfl hO3.cells ?_
    (conv => whnf)
    refine CallP.does (under_ok l[i] hfi w3) ?_
    rintro r w4 ⟨rfl, hE4⟩
    have hE := hE3.trans hE4
    cases hu : underF l[i] with
    | none =>
      simp only [underV, hu, Option.isSome_none]
      (conv => whnf)
      refine ⟨?_, hE⟩
      rw [hu] at ho
      simp only at ho
      simp [overV, hov, ← ho]
    | some xy =>
      obtain ⟨x, y⟩ := xy
      simp only [underV, hu, Option.isSome_some]
      rw [hu] at ho
      simp only at ho
      (conv => whnf)
      have hx : (((some (x, y)).getD (0, 0)).1 : Nat) = x := rfl
      refine CmpP.split (fun h => ?_) (fun h => ?_)
      · have h0 : 0 < i := by simp only [decide_eq_true_eq] at h; omega
        (conv => whnf)
        refine CmpP.split (fun h => ?_) (fun h => ?_)
        · have hxb : x ≠ b := by
            intro e
            subst e
            simp at h
          rw [if_pos ⟨h0, hxb⟩] at ho
          (conv => whnf)
          refine ⟨?_, hE⟩
          simp [overV, hov, ← ho]
        · have hxb : x = b := by
            simp only [bne_eq_false_iff_eq] at h
            exact Int.ofNat_inj.1 h
          rw [if_neg (fun h => h.2 hxb), if_neg (by omega)] at ho
          (conv => whnf)
          refine CmpP.no (by simp; omega) ?_
          (conv => whnf)
          refine NumP.to ((i + 1 : Nat) : Int) (by rw [wrap_i64]; omega) ?_
          (conv => whnf)
          exact ⟨i + 1, a, y, (by repeat (first | exact trivial | refine ⟨rfl, ?_⟩)), ⟨hE, ho, by omega⟩, by omega⟩
      · have h0 : i = 0 := by simp only [decide_eq_false_iff_not] at h; omega
        subst h0
        rw [if_neg (fun h => absurd h.1 (by omega)), if_pos rfl] at ho
        (conv => whnf)
        refine CmpP.yes (by decide) ?_
        (conv => whnf)
        refine NumP.to ((0 + 1 : Nat) : Int) (by rfl) ?_
        (conv => whnf)
        exact ⟨0 + 1, x, y, (by repeat (first | exact trivial | refine ⟨rfl, ?_⟩)), ⟨hE, ho, by omega⟩, by omega⟩
  · have hge : i = l.length := by simp only [decide_eq_false_iff_not] at h; omega
    subst hge
    rw [List.drop_length, overAux] at ho
    (conv => whnf)
    refine GetP.lenS Tryz.runUnderlying155 (hv.ext hE) ?_
    (conv => whnf)
    refine CmpP.split (fun h => ?_) (fun h => ?_)
    · have hne : l ≠ [] := by intro e; rw [e] at h; simp at h
      (conv => whnf)
      refine ⟨?_, hE⟩
      simp [overV, overF, hne, ← ho]
    · have hnil : l = [] := by
        simp only [gt_iff_lt, decide_eq_false_iff_not] at h
        exact List.length_eq_zero_iff.1 (by omega)
      (conv => whnf)
      refine ⟨?_, hE⟩
      rw [hnil] at ho ⊢
      simp [overAux] at ho
      simp [overV, overF, ho]
end Go.Proofs.YtgeemplpgfiidaaGreatDoor.Mv
/- cut: the pile, and Merge. -/
namespace Go.Proofs.YtgeemplpgfiidaaGreatDoor.Mv
open Go Go.RowKit Go.Proofs

/-- The leaves under a spot lie within the greatest forest. -/
def Spot.Good (s : Spot) : Prop := (s.i + 1) * 2 ^ s.h ≤ 2 ^ 62
theorem Spot.Good.h {s : Spot} (g : s.Good) : s.h ≤ 62 := by
  rcases Nat.lt_or_ge 62 s.h with h | h
  · have h1 : 2 ^ 63 ≤ 2 ^ s.h := Nat.pow_le_pow_right (by omega) h
    have h2 : 2 ^ s.h ≤ (s.i + 1) * 2 ^ s.h := Nat.le_mul_of_pos_left _ (by omega)
    unfold Spot.Good at g
    omega
  · exact h
theorem Spot.Good.i {s : Spot} (g : s.Good) : s.i < 2 ^ 62 := by
  have h2 : (s.i + 1) ≤ (s.i + 1) * 2 ^ s.h := Nat.le_mul_of_pos_right _ (Nat.two_pow_pos _)
  unfold Spot.Good at g
  omega
theorem Spot.Good.fits {s : Spot} (g : s.Good) : s.Fits := ⟨by have := g.h; omega, by have := g.i; omega⟩

def sib (a b : Spot) : Prop := a.h = b.h ∧ a.i % 2 = 0 ∧ b.i = a.i + 1
instance (a b : Spot) : Decidable (sib a b) := inferInstanceAs (Decidable (_ ∧ _))
def up (a : Spot) : Spot := ⟨a.h + 1, a.i / 2⟩
theorem up_good {a b : Spot} (hs : sib a b) (hb : b.Good) : (up a).Good := by
  obtain ⟨h1, h2, h3⟩ := hs
  unfold Spot.Good up at *
  simp only
  have : (a.i / 2 + 1) * 2 ^ (a.h + 1) = (b.i + 1) * 2 ^ b.h := by
    rw [← h1, Nat.pow_succ, Nat.mul_comm (2 ^ a.h) 2, ← Nat.mul_assoc]
    congr 1
    omega
  rw [this]
  exact hb

/-- The top of a pile, the last one first, put together as long as it goes. -/
def fuse : List Spot → List Spot
  | b :: a :: r => if sib a b then fuse (up a :: r) else b :: a :: r
  | l => l
termination_by l => l.length
def fuseM : List Spot → List Spot
  | b :: a :: r => if sib a b then up a :: fuseM (up a :: r) else []
  | _ => []
termination_by l => l.length
theorem fuse_step {a b : Spot} {r : List Spot} (h : sib a b) : fuse (b :: a :: r) = fuse (up a :: r) := by rw [fuse, if_pos h]
theorem fuse_stop {a b : Spot} {r : List Spot} (h : ¬ sib a b) : fuse (b :: a :: r) = b :: a :: r := by rw [fuse, if_neg h]
theorem fuseM_step {a b : Spot} {r : List Spot} (h : sib a b) : fuseM (b :: a :: r) = up a :: fuseM (up a :: r) := by rw [fuseM, if_pos h]
theorem fuseM_stop {a b : Spot} {r : List Spot} (h : ¬ sib a b) : fuseM (b :: a :: r) = [] := by rw [fuseM, if_neg h]
def putF (l : List Spot) (s : Spot) : List Spot := (fuse (s :: l.reverse)).reverse

theorem fuse_len : ∀ (l : List Spot), (fuse l).length ≤ l.length
  | [] => by simp [fuse]
  | [a] => by simp [fuse]
  | b :: a :: r => by
    by_cases h : sib a b
    · rw [fuse_step h]
      have := fuse_len (up a :: r)
      simp at this ⊢
      omega
    · rw [fuse_stop h]; exact Nat.le_refl _
termination_by l => l.length
theorem fuse_good : ∀ (l : List Spot), (∀ x ∈ l, x.Good) → ∀ x ∈ fuse l, x.Good
  | [], _ => by simp [fuse]
  | [a], h => by simpa [fuse] using h
  | b :: a :: r, hg => by
    by_cases h : sib a b
    · rw [fuse_step h]
      refine fuse_good (up a :: r) ?_
      intro x hx
      rcases List.mem_cons.1 hx with rfl | hx
      · exact up_good h (hg b (by simp))
      · exact hg x (by simp [hx])
    · rw [fuse_stop h]; exact hg
termination_by l => l.length
theorem putF_len (l : List Spot) (s : Spot) : (putF l s).length ≤ l.length + 1 := by
  have := fuse_len (s :: l.reverse)
  simpa [putF] using this
theorem putF_good {l : List Spot} {s : Spot} (h : ∀ x ∈ s :: l, x.Good) : ∀ x ∈ putF l s, x.Good := by
  intro x hx
  refine fuse_good (s :: l.reverse) (fun y hy => h y ?_) x (by simpa [putF] using hx)
  simpa using hy
def mergeF (l : List Spot) : List Spot := l.foldl putF []
theorem mergeF_take {l : List Spot} {i : Nat} (h : i < l.length) : mergeF (l.take (i + 1)) = putF (mergeF (l.take i)) l[i] := by
  unfold mergeF
  rw [List.take_succ_eq_append_getElem h, List.foldl_append]
  rfl
theorem merge_len : ∀ (m l : List Spot), (l.foldl putF m).length ≤ m.length + l.length
  | m, [] => by simp
  | m, s :: r => by
    have h1 := merge_len (putF m s) r
    have h2 := putF_len m s
    simp only [List.foldl_cons, List.length_cons]
    omega
theorem merge_good : ∀ (m l : List Spot), (∀ x ∈ m, x.Good) → (∀ x ∈ l, x.Good) → ∀ x ∈ l.foldl putF m, x.Good
  | m, [], hm, _ => by simpa using hm
  | m, s :: r, hm, hl => by
    simp only [List.foldl_cons]
    refine merge_good (putF m s) r (putF_good ?_) (fun x hx => hl x (by simp [hx]))
    intro x hx
    rcases List.mem_cons.1 hx with rfl | hx
    · exact hl _ (by simp)
    · exact hm x hx

theorem elPile : ElF Tryz.prog 225 159 codSpot 16 := ⟨Tryz.underlying225, ⟨Tryz.t159, Spot.val ⟨0, 0⟩, by kernel_rfl, by kernel_rfl, by kernel_rfl, by kernel_rfl, by kernel_rfl⟩⟩
theorem tfPile : TyF Tryz.prog 225 false 1 := ⟨Tryz.isAgg225, Tryz.sizeOf225⟩

theorem put_ok (pb base : Nat) (v : Value) (l : List Spot) (s : Spot) (w : World) (hpb : pb < base) (hO : Own w pb [v]) (h1 : v.oneCell' = true) (hG : Grow codSpot 159 base w v l) (hbase : base ≤ w.heap.size) (good : ∀ x ∈ s :: l, x.Good) (hn : l.length < 1048576) :
    Does Tryz.prog 135 [pt pb, Spot.val s] w (fun r w' => ∃ v', Own w' pb [v'] ∧ v'.oneCell' = true ∧ Grow codSpot 159 base w' v' (putF l s) ∧ Below pb w w' ∧ Grow codSpot 159 w.heap.size w' r (fuseM (s :: l.reverse)) ∧ ∀ b, inBlock r b → ¬ inBlock v' b) := by
  (refine DoesX.of_vc tyOk Tryz.func135 rfl ⟨rfl, rfl⟩ rfl ?_; (conv => whnf))
  refine RunP.box ?_
  intro b3 w1 hb3 hO3 hE1
  have hs1 := hE1.size
  have hO3 : Own w1 b3 (Spot.cells s) := hO3
  (conv => whnf)
  refine draw_with tyOk mixed (.q 0 (.q 1 (.q 2 (.q 3 (.q 4 (.e [(5, .e [(6, .q 7 (.e [(8, .done)]))])])))))) (by kernel_rfl) (fun w' => Own w' pb [v] ∧ Own w' b3 (Spot.cells s)) (fun w' hx => ⟨(hO.ext hE1).ext hx, hO3.ext hx⟩) ?_
  intro w2 hB2 hs2
  (conv => whnf)
  have hOw2 := (hO.ext hE1).ext hB2
  have hO3w2 := hO3.ext hB2
  have hGw2 := (hG.ext hE1).ext hB2
  have hE2 := hE1.trans hB2
  refine GetP.ldS tfPile (v := v) (fun w' hw' => by rw [hw'.1.cell]; rfl) ?_
  (conv => whnf)
  refine GetP.ldsS tfSpot (cs := Spot.cells s) rfl (fun w' hw' => hw'.2.cells) ?_
  (conv => whnf)
  refine RunP.slice1 (C := codSpot) (a := s) Tryz.runUnderlying225 Tryz.sizeOf159 Tryz.zeroValue159 rfl rfl (by decide) ?_
  intro b5 w3 hb5 hO5 hE3 hq5
  have hs3 := hE3.size
  (conv => whnf)
  (refine BarP.no ?_)
  refine ReqP.mk ⟨hOw2.ext hE3, hO3w2.ext hE3⟩ ?_
  (conv => whnf)
  refine RunP.appendX elPile (hGw2.ext hE3) hq5 (by simp only [maxLen, List.length_cons, List.length_nil]; omega) (by simp only [List.length_cons, List.length_nil]; omega) (by omega) ?_
  intro v4 w4 hG4 hgr4 hin4
  have hB4 := (hGw2.ext hE3).grown_below hgr4 (by omega)
  have hs4 := hgr4.size
  (conv => whnf)
  have hO4 : Own w4 pb [v] := (hOw2.ext hE3).below hB4 hpb
  (refine BarP.no ?_)
  refine ReqP.mk ⟨hO4, ?_⟩ ?_
  · exact (hO3w2.ext hE3).kept (hGw2.ext hE3) hgr4 (hG.inB (.inl (by omega)))
  (conv => whnf)
  have h14 : v4.oneCell' = true := hG4.one
  refine DoP.st tfPile rfl hO4 (by simp) h14 ?_
  intro w5 hO5' hU5
  have hO5' : Own w5 pb [v4] := hO5'
  (conv => whnf)
  (refine BarP.yes (by decide +kernel) ?_; (conv => whnf))
  (conv => whnf)
  have hl4 : (s :: l.reverse) = (l ++ [s]).reverse := by simp
  have hG5 : Grow codSpot 159 base w5 v4 (l ++ [s]) := hG4.upd hU5 (hG4.inB (.inr hpb))
  have hB5 : Below pb w w5 := ((hE2.trans hE3 |> fun h => Below.mono h (by omega : pb ≤ w.heap.size)).trans (Below.mono hB4 (by omega))).trans (hU5.below (Nat.le_refl _) (by omega))
  refine loop_only4 tyOk (fun (v vm : Value) (_ _ : List Spot) => [(0, pt pb), (5, vm)]) (fun v vm l' lm w' => Own w' pb [v] ∧ v.oneCell' = true ∧ Grow codSpot 159 base w' v l' ∧ Below pb w w' ∧ Grow codSpot 159 w.heap.size w' vm lm ∧ (∀ b, inBlock vm b → ¬ inBlock v b) ∧
      fuse l'.reverse = fuse (s :: l.reverse) ∧ lm ++ fuseM l'.reverse = fuseM (s :: l.reverse) ∧ (∀ x ∈ l', x.Good) ∧ l'.length + lm.length ≤ l.length + 1) (fun _ _ l' _ => l'.length) v4 (.slice none 0 0) (l ++ [s]) []
    (by repeat (first | exact trivial | refine ⟨rfl, ?_⟩)) ⟨hO5', h14, hG5, hB5, Grow.nil _ _ _ _, (by rintro b ⟨_, _, _, h⟩; cases h), by rw [hl4], by rw [hl4]; rfl, (by intro x hx; exact good x (by simp at hx ⊢; exact hx.symm)), by simp⟩ ?_
  clear hl4 hG5 hB5 hO5' hU5 hO4 hG4 hgr4 hin4 hB4 hq5 hO5 hOw2 hO3w2 hGw2 hO3
  rintro v vm l' lm w1 ⟨hO, h1v, hG, hB, hGm, hd, hf, hm, hgood, hlen⟩
  have hs1 := hB.size
  (conv => whnf)
  refine GetP.ld tfPile (v := v) (by rw [hO.cell]; rfl) ?_
  (conv => whnf)
  refine GetP.lenS Tryz.runUnderlying225 hG.seq ?_
  (conv => whnf)
  refine CmpP.split (fun h => ?_) (fun h => ?_)
  · have hlt : l'.length < 2 := by simp only [decide_eq_true_eq] at h; omega
    (conv => whnf)
    have hst : fuse l'.reverse = l'.reverse ∧ fuseM l'.reverse = [] := by
      match l', hlt with
      | [], _ => exact ⟨by simp [fuse], by simp [fuseM]⟩
      | [a], _ => exact ⟨by simp [fuse], by simp [fuseM]⟩
    rw [hst.1] at hf
    rw [hst.2, List.append_nil] at hm
    refine ⟨v, hO, h1v, ?_, hB, ?_, hd⟩
    · unfold putF
      rw [← hf, List.reverse_reverse]
      exact hG
    · rw [← hm]
      exact hGm
  · have hge : 2 ≤ l'.length := by simp only [decide_eq_false_iff_not] at h; omega
    obtain ⟨r, a, b, rfl⟩ : ∃ r a b, l' = r ++ [a, b] := by
      refine ⟨l'.take (l'.length - 2), l'[l'.length - 2], l'[l'.length - 1], ?_⟩
      have h1 : l'.drop (l'.length - 2) = [l'[l'.length - 2], l'[l'.length - 1]] := by
        rw [List.drop_eq_getElem_cons (by omega), show l'.length - 2 + 1 = l'.length - 1 by omega, List.drop_eq_getElem_cons (by omega), show l'.length - 1 + 1 = l'.length by omega, List.drop_length]
      rw [← h1, List.take_append_drop]
    have hrl : (r ++ [a, b]).length = r.length + 2 := by simp
    have hrev : (r ++ [a, b]).reverse = b :: a :: r.reverse := by simp
    rw [hrl] at hlen hge
    rw [hrev] at hf hm
    rw [hrl]
    have hga : a.Good := hgood a (by simp)
    have hgb : b.Good := hgood b (by simp)
    have ha1 := hga.h
    have ha2 := hga.i
    have hb1 := hgb.h
    have hb2 := hgb.i
    (conv => whnf)
    refine DrawP.mid (σ := Nat × Nat) (fun p => [(0, pt pb), (5, vm), (6, v), (7, .int .i64 ((r.length + 2 : Nat) : Int)), (8, pt p.1), (9, pt p.2)]) (fun p w' => Ext w1 w' ∧ Own w' p.1 (Spot.cells a) ∧ Own w' p.2 (Spot.cells b) ∧ w1.heap.size ≤ p.1 ∧ w1.heap.size ≤ p.2) ?_ ?_
    · refine draw_ext tyOk mixed (.q 0 (.q 1 (.q 2 (.q 3 (.q 4 (.q 5 (.q 6 (.q 7 (.q 8 (.q 9 (.e [(10, .e [(11, .e [(12, .e [(13, .done)])])]), (11, .e [(10, .e [(12, .e [(13, .done)])])])]))))))))))) (by kernel_rfl) ?_
      intro w2 hB2 hs2
      (conv => whnf)
      refine NumP.to ((r.length : Nat) : Int) (by rw [wrap_i64]; omega) ?_
      (conv => whnf)
      refine GetP.idxS Tryz.runUnderlying225 Tryz.sizeOf159 (hG.seq.ext hB2) (by omega) (by rw [hrl]; omega) ?_
      intro eb1 eo1 hc1
      have hc1 : CellsAt w2 eb1 eo1 (Spot.cells a) := by
        have : (r ++ [a, b])[((r.length : Nat) : Int).toNat]'(by rw [hrl]; omega) = a := by simp
        rw [this] at hc1
        exact hc1
      (conv => whnf)
      refine GetP.ldsS tfSpot (cs := Spot.cells a) rfl (fun w' hw' => hc1.ext hw') ?_
      (conv => whnf)
      refine NumP.to ((r.length + 1 : Nat) : Int) (by rw [wrap_i64]; omega) ?_
      (conv => whnf)
      refine GetP.idxS Tryz.runUnderlying225 Tryz.sizeOf159 (hG.seq.ext hB2) (by omega) (by rw [hrl]; omega) ?_
      intro eb2 eo2 hc2
      have hc2 : CellsAt w2 eb2 eo2 (Spot.cells b) := by
        have : (r ++ [a, b])[((r.length + 1 : Nat) : Int).toNat]'(by rw [hrl]; omega) = b := by simp [show (((r.length : Int) + 1).toNat) = r.length + 1 by omega]
        rw [this] at hc2
        exact hc2
      (conv => whnf)
      refine GetP.ldsS tfSpot (cs := Spot.cells b) rfl (fun w' hw' => hc2.ext hw') ?_
      (conv => whnf)
      refine And.intro ?_ ?_
      · (conv => whnf)
        refine RunP.new (z := Spot.val ⟨0, 0⟩) Tryz.zeroValue159 ?_
        intro p8 w3 hbp8 hOp8 hE3
        have hs3 := hE3.size
        have hOp8 : Own w3 p8 (Spot.cells ⟨0, 0⟩) := hOp8
        (conv => whnf)
        (refine BarP.no ?_)
        refine ReqP.mk hE3 ?_
        (conv => whnf)
        refine RunP.new (z := Spot.val ⟨0, 0⟩) Tryz.zeroValue159 ?_
        intro p9 w4 hbp9 hOp9 hE4
        have hs4 := hE4.size
        have hOp9 : Own w4 p9 (Spot.cells ⟨0, 0⟩) := hOp9
        have hOp8' := hOp8.ext hE4
        (conv => whnf)
        (refine BarP.no ?_)
        refine ReqP.mk (hE3.trans hE4) ?_
        (conv => whnf)
        have hxlt := hOp8.lt
        refine DoP.sts0 tfSpot (vs := Spot.cells a) hOp8' rfl rfl (codSpot.one a) ?_
        intro w5 hO5 hU5
        have hs5 := hU5.size
        have hE5 : Ext w2 w5 := (hE3.trans hE4).upd hU5 (by omega)
        (conv => whnf)
        (refine BarP.no ?_)
        refine ReqP.mk hE5 ?_
        (conv => whnf)
        refine DoP.sts0 tfSpot (vs := Spot.cells b) (hOp9.upd hU5 (by omega)) rfl rfl (codSpot.one b) ?_
        intro w6 hO6 hU6
        have hE6 : Ext w2 w6 := hE5.upd hU6 (by omega)
        (conv => whnf)
        (refine BarP.no ?_)
        refine ReqP.mk hE6 ?_
        (conv => whnf)
        exact ⟨(p8, p9), (by repeat (first | exact trivial | refine ⟨rfl, ?_⟩)), Ext.trans hB2 hE6, hO5.upd hU6 (by omega), hO6, by simp only; omega, by simp only; omega⟩
      · (conv => whnf)
        refine RunP.new (z := Spot.val ⟨0, 0⟩) Tryz.zeroValue159 ?_
        intro p9 w3 hbp9 hOp9 hE3
        have hs3 := hE3.size
        have hOp9 : Own w3 p9 (Spot.cells ⟨0, 0⟩) := hOp9
        (conv => whnf)
        (refine BarP.no ?_)
        refine ReqP.mk hE3 ?_
        (conv => whnf)
        refine RunP.new (z := Spot.val ⟨0, 0⟩) Tryz.zeroValue159 ?_
        intro p8 w4 hbp8 hOp8 hE4
        have hs4 := hE4.size
        have hOp8 : Own w4 p8 (Spot.cells ⟨0, 0⟩) := hOp8
        have hOp9' := hOp9.ext hE4
        (conv => whnf)
        (refine BarP.no ?_)
        refine ReqP.mk (hE3.trans hE4) ?_
        (conv => whnf)
        have hxlt := hOp9.lt
        refine DoP.sts0 tfSpot (vs := Spot.cells a) hOp8 rfl rfl (codSpot.one a) ?_
        intro w5 hO5 hU5
        have hs5 := hU5.size
        have hE5 : Ext w2 w5 := (hE3.trans hE4).upd hU5 (by omega)
        (conv => whnf)
        (refine BarP.no ?_)
        refine ReqP.mk hE5 ?_
        (conv => whnf)
        refine DoP.sts0 tfSpot (vs := Spot.cells b) (hOp9'.upd hU5 (by omega)) rfl rfl (codSpot.one b) ?_
        intro w6 hO6 hU6
        have hE6 : Ext w2 w6 := hE5.upd hU6 (by omega)
        (conv => whnf)
        (refine BarP.no ?_)
        refine ReqP.mk hE6 ?_
        (conv => whnf)
        exact ⟨(p8, p9), (by repeat (first | exact trivial | refine ⟨rfl, ?_⟩)), Ext.trans hB2 hE6, hO5.upd hU6 (by omega), hO6, by simp only; omega, by simp only; omega⟩
    · rintro ⟨p8, p9⟩ w2 ⟨hE2, hO8, hO9, hp8, hp9⟩
      have hs2 := hE2.size
      simp only at hO8 hO9 hp8 hp9
      (conv => whnf)
      refine GetP.ld tfU8 (v := .int .u8 a.h) (by rw [hO8.cell]; rfl) ?_
      (conv => whnf)
      refine GetP.ld tfU8 (v := .int .u8 b.h) (by rw [hO9.cell]; rfl) ?_
      (conv => whnf)
      have stop : ¬ sib a b → ∃ v', Own w2 pb [v'] ∧ v'.oneCell' = true ∧ Grow codSpot 159 base w2 v' (putF l s) ∧ Below pb w w2 ∧ Grow codSpot 159 w.heap.size w2 vm (fuseM (s :: l.reverse)) ∧ ∀ b, inBlock vm b → ¬ inBlock v' b := by
        intro hns
        rw [fuse_stop hns] at hf
        rw [fuseM_stop hns, List.append_nil] at hm
        refine ⟨v, hO.ext hE2, h1v, ?_, below_ext hB hE2 (by omega), ?_, hd⟩
        · unfold putF
          rw [← hf]
          simpa using hG.ext hE2
        · rw [← hm]
          exact hGm.ext hE2
      refine CmpP.split (fun h => ?_) (fun h => ?_)
      · have hns : ¬ sib a b := by
          intro hs
          have := hs.1
          simp [this] at h
        (conv => whnf)
        exact stop hns
      have hh : a.h = b.h := by
        simp only [bne_eq_false_iff_eq] at h
        exact Int.ofNat_inj.1 h
      (conv => whnf)
      refine GetP.ld tfU64 (v := .int .u64 a.i) (by rw [hO8.cell]; rfl) ?_
      (conv => whnf)
      rw [show bitsV .and .u64 ((a.i : Nat) : Int) 1 = ((a.i &&& 1 : Nat) : Int) from and64 _ 1 (by omega) (by omega), show a.i &&& 1 = a.i % 2 ^ 1 from Nat.and_two_pow_sub_one_eq_mod _ 1]
      refine CmpP.split (fun h => ?_) (fun h => ?_)
      · have hns : ¬ sib a b := by
          intro hs
          have := hs.2.1
          simp [this] at h
        (conv => whnf)
        exact stop hns
      have he : a.i % 2 = 0 := by
        simp only [beq_eq_false_iff_ne, ne_eq] at h
        omega
      (conv => whnf)
      refine GetP.ld tfU64 (v := .int .u64 b.i) (by rw [hO9.cell]; rfl) ?_
      (conv => whnf)
      refine GetP.ld tfU64 (v := .int .u64 a.i) (by rw [hO8.cell]; rfl) ?_
      (conv => whnf)
      refine NumP.to ((a.i + 1 : Nat) : Int) (by rw [wrap_u64]; omega) ?_
      (conv => whnf)
      refine CmpP.split (fun h => ?_) (fun h => ?_)
      · have hns : ¬ sib a b := by
          intro hs
          have := hs.2.2
          simp [this] at h
        (conv => whnf)
        exact stop hns
      have hbi : b.i = a.i + 1 := by
        simp only [bne_eq_false_iff_eq] at h
        exact Int.ofNat_inj.1 h
      have hsib : sib a b := ⟨hh, he, hbi⟩
      clear stop
      have hgu := up_good hsib hgb
      (conv => whnf)
      refine GetP.ld tfU8 (v := .int .u8 a.h) (by rw [hO8.cell]; rfl) ?_
      (conv => whnf)
      refine NumP.to ((a.h + 1 : Nat) : Int) (by rw [wrap_u8]; omega) ?_
      (conv => whnf)
      refine GetP.ld tfU64 (v := .int .u64 a.i) (by rw [hO8.cell]; rfl) ?_
      (conv => whnf)
      (refine ReqP.mk (by first | decide | omega | (constructor <;> omega)) ?_; (conv => whnf))
      rw [show shrV .u64 (a.i : Int) 1 = ((a.i / 2 ^ 1 : Nat) : Int) from shr64 a.i 1 (by omega)]
      refine GetP.build (cells := (Spot.cells (up a)).toArray) (by kernel_rfl) ?_
      (conv => whnf)
      refine RunP.new (z := Spot.val ⟨0, 0⟩) Tryz.zeroValue159 ?_
      intro b10 w3 hb10 hO10 hE3
      have hs3 := hE3.size
      (conv => whnf)
      refine DoP.sts0 tfSpot (vs := Spot.cells (up a)) hO10 rfl rfl (codSpot.one (up a)) ?_
      intro w4 hO10 hU4
      have hs4 := hU4.size
      have hE4 : Ext w1 w4 := (hE2.trans hE3).upd hU4 (by omega)
      (conv => whnf)
      refine draw_with tyOk mixed (.q 0 (.q 1 (.q 2 (.q 3 (.q 4 (.q 5 (.e [(6, .e [(7, .q 8 (.e [(9, .done)]))])]))))))) (by kernel_rfl) (fun w' => Own w' b10 (Spot.cells (up a))) (fun w' hx => hO10.ext hx) ?_
      intro w5 hE5 hs5
      have hE5 := hE4.trans hE5
      (conv => whnf)
      refine NumP.to ((r.length : Nat) : Int) (by rw [wrap_i64]; omega) ?_
      (conv => whnf)
      refine GetP.cutG (hG.ext hE5) Tryz.runUnderlying225 Tryz.sizeOf159 (j := r.length) (by rw [hrl]; omega) ?_
      intro v6 hG6 hin6
      rw [List.take_left] at hG6
      (conv => whnf)
      refine GetP.ldsS tfSpot (cs := Spot.cells (up a)) rfl (fun w' hw' => hw'.cells) ?_
      (conv => whnf)
      refine RunP.slice1 (C := codSpot) (a := up a) Tryz.runUnderlying225 Tryz.sizeOf159 Tryz.zeroValue159 rfl rfl (by decide) ?_
      intro b11 w6 hb11 hO11 hE6 hq6
      have hs6 := hE6.size
      have hO10' := (hO10.ext (show Ext w4 w5 by assumption)).ext hE6
      (conv => whnf)
      (refine BarP.no ?_)
      refine ReqP.mk hO10' ?_
      (conv => whnf)
      refine RunP.appendX elPile (hG6.ext hE6) hq6 (by simp only [maxLen, List.length_cons, List.length_nil]; omega) (by simp only [List.length_cons, List.length_nil]; omega) (by omega) ?_
      intro v7 w7 hG7 hgr7 hin7
      have hs7 := hgr7.size
      have hO10'' := hO10'.kept (hG6.ext hE6) hgr7 (fun hb => hG.inB (.inl (by omega)) (hin6 _ hb))
      (conv => whnf)
      (refine BarP.no ?_)
      refine ReqP.mk hO10'' ?_
      (conv => whnf)
      have hEp6 := hE5.trans hE6
      have hB7 : Below base w6 w7 := (hG6.ext hE6).grown_below hgr7 (by omega)
      have hO7 : Own w7 pb [v] := (hO.ext hEp6).below hB7 hpb
      have hGm7 : Grow codSpot 159 w.heap.size w7 vm lm := (hGm.ext hEp6).kept (hG6.ext hE6) hgr7 (fun b hb hb' => hd b hb (hin6 _ hb'))
      refine DoP.st tfPile rfl hO7 (by simp) hG7.one ?_
      intro w8 hO8' hU8
      have hs8 := hU8.size
      have hO8' : Own w8 pb [v7] := hO8'
      (conv => whnf)
      (refine BarP.yes (by decide +kernel) ?_; (conv => whnf))
      (conv => whnf)
      have hB8 : Below pb w w8 := ((below_ext hB hEp6 (by omega)).trans (Below.mono hB7 (by omega))).trans (hU8.below (Nat.le_refl _) (by omega))
      have hG8 := hG7.upd hU8 (hG7.inB (.inr hpb))
      have hGm8 := hGm7.upd hU8 (hGm7.inB (.inr (by have := hO.lt; omega)))
      have hO10w8 := hO10''.upd hU8 (by omega)
      have hd8 : ∀ b, inBlock vm b → ¬ inBlock v7 b := by
        intro x hx hx'
        rcases hin7 x hx' with h | h
        · exact hd x hx (hin6 _ h)
        · have := (hGm.block hx).2
          omega
      refine GetP.lds tfSpot (cs := Spot.cells (up a)) rfl hO10w8.cells ?_
      (conv => whnf)
      refine RunP.slice1 (C := codSpot) (a := up a) Tryz.runUnderlying155 Tryz.sizeOf159 Tryz.zeroValue159 rfl rfl (by decide) ?_
      intro b12 w9 hb12 hO12 hE9 hq9
      have hs9 := hE9.size
      (conv => whnf)
      refine RunP.appendX elSpot (hGm8.ext hE9) hq9 (by simp only [maxLen, List.length_cons, List.length_nil]; omega) (by simp only [List.length_cons, List.length_nil]; omega) (by omega) ?_
      intro vm' w10 hGm10 hgr10 hin10
      have hB10 := (hGm8.ext hE9).grown_below hgr10 (by omega)
      (conv => whnf)
      have hplt := hO.lt
      have hG10 : Grow codSpot 159 base w10 v7 (r ++ [up a]) := (hG8.ext hE9).kept (hGm8.ext hE9) hgr10 (fun b hb hb' => hd8 b hb' hb)
      refine ⟨v7, vm', r ++ [up a], lm ++ [up a], (by repeat (first | exact trivial | refine ⟨rfl, ?_⟩)), ⟨(hO8'.ext hE9).below hB10 (by omega), hG7.one, hG10, (below_ext hB8 hE9 (by omega)).trans (Below.mono hB10 (by omega)), hGm10, ?_, ?_, ?_, ?_, ?_⟩, ?_⟩
      · intro x hx hx'
        rcases hin10 x hx with h | h
        · exact hd8 x h hx'
        · have := (hG8.block hx').2
          omega
      · rw [← hf, fuse_step hsib]
        simp
      · rw [← hm, fuseM_step hsib]
        simp
      · intro x hx
        simp at hx
        rcases hx with hx | rfl
        · exact hgood x (by simp [hx])
        · exact hgu
      · simp; omega
      · simp

theorem merge_ok (v : Value) (l : List Spot) (w : World) (hv : Seq codSpot w v l) (hg : ∀ x ∈ l, x.Good) (hn : l.length < 1048576) (ho : l = [] ∨ (overF l).isSome = true) :
    Does Tryz.prog 88 [v] w (fun r w' => ∃ v', r = .tuple #[v', .bool true] ∧ Grow codSpot 159 w.heap.size w' v' (mergeF l) ∧ Ext w w') := by
  (refine DoesX.of_vc tyOk Tryz.func88 rfl ⟨rfl, rfl⟩ rfl ?_; (conv => whnf))
  refine CallP.does (over_ok v l w hv (fun x hx => (hg x hx).fits) (by omega)) ?_
  rintro r w1 ⟨rfl, hE1⟩
  have hs1 := hE1.size
  have hw3 := hv.ext hE1
  cases ho' : overF l with
  | none =>
    have hl : l = [] := by
      rcases ho with h | h
      · exact h
      · rw [ho'] at h; cases h
    simp only [overV, ho', Option.isSome_none]
    (conv => whnf)
    refine GetP.lenS Tryz.runUnderlying155 hw3 ?_
    (conv => whnf)
    refine CmpP.no (by simp [hl]) ?_
    (conv => whnf)
    refine RunP.new (z := .slice none 0 0) Tryz.zeroValue225 ?_
    intro b7 w2 hb7 hO7 hE2
    have hs2 := hE2.size
    have hO7 : Own w2 b7 [.slice none 0 0] := hO7
    (conv => whnf)
    refine GetP.lenS Tryz.runUnderlying155 (hw3.ext hE2) ?_
    (conv => whnf)
    refine loop_only2 tyOk (fun (i : Nat) (_ : Value) => [(7, pt b7), (23, v), (24, .int .i64 l.length), (25, .int .i64 i)]) (fun i u w' => Own w' b7 [u] ∧ u.oneCell' = true ∧ Grow codSpot 159 (b7 + 1) w' u (mergeF (l.take i)) ∧ Ext w w' ∧ i ≤ l.length) (fun i _ => l.length - i) 0 (.slice none 0 0)
      (by repeat (first | exact trivial | refine ⟨rfl, ?_⟩)) ⟨hO7, rfl, Grow.nil _ _ _ _, hE1.trans hE2, by omega⟩ ?_
    rintro i u w2 ⟨hO, h1u, hG, hE, hi⟩
    have hs2 := hE.size
    have hlt7 := hO.lt
    (conv => whnf)
    refine CmpP.split (fun h => ?_) (fun h => ?_)
    · have hlt : i < l.length := by simp only [decide_eq_true_eq] at h; omega
      (conv => whnf)
      refine GetP.idxS Tryz.runUnderlying155 Tryz.sizeOf159 (hv.ext hE) (by omega) (by simpa using hlt) ?_
      intro eb eo hc
      (conv => whnf)
      refine GetP.lds tfSpot (cs := Spot.cells l[i]) rfl hc ?_
      (conv => whnf)
      refine RunP.new (z := Spot.val ⟨0, 0⟩) Tryz.zeroValue159 ?_
      intro b8 w3 hb8 hO8 hE3
      have hs3 := hE3.size
      (conv => whnf)
      refine DoP.sts0 tfSpot hO8 rfl rfl (codSpot.one l[i]) ?_
      intro w4 hO4 hU4
      have hs4 := hU4.size
      have hE4 : Ext w2 w4 := hE3.upd hU4 (by omega)
      (conv => whnf)
      refine GetP.lds tfSpot (cs := Spot.cells l[i]) rfl hO4.cells ?_
      (conv => whnf)
      have hm1 := merge_len [] (l.take i)
      have hm2 := merge_good [] (l.take i) (by simp) (fun x hx => hg x (List.mem_of_mem_take hx))
      refine CallP.does (put_ok b7 (b7 + 1) u (mergeF (l.take i)) l[i] w4 (by omega) (hO.ext hE4) h1u (hG.ext hE4) (by omega) ?_ ?_) ?_
      · intro x hx
        rcases List.mem_cons.1 hx with rfl | hx
        · exact hg _ (List.getElem_mem hlt)
        · exact hm2 x hx
      · have : (mergeF (l.take i)).length ≤ (l.take i).length := by simpa [mergeF] using hm1
        have h3 : (l.take i).length ≤ i := by simp; omega
        omega
      rintro r w5 ⟨u', hO5, h1u', hG5, hB5, _, _⟩
      (conv => whnf)
      refine NumP.to ((i + 1 : Nat) : Int) (by rw [wrap_i64]; omega) ?_
      (conv => whnf)
      refine ⟨i + 1, u', (by repeat (first | exact trivial | refine ⟨rfl, ?_⟩)), ⟨hO5, h1u', ?_, ?_, by omega⟩, by omega⟩
      · rw [mergeF_take hlt]
        exact hG5
      · exact Below.trans (hE.trans hE4) (Below.mono hB5 (by omega))
    · have hge : i = l.length := by simp only [decide_eq_false_iff_not] at h; omega
      subst hge
      rw [List.take_length] at hG
      (conv => whnf)
      refine GetP.ld tfPile (v := u) (by rw [hO.cell]; rfl) ?_
      (conv => whnf)
      exact ⟨u, rfl, hG.mono (by omega), hE⟩

  | some xy =>
    simp only [overV, ho', Option.isSome_some]
    (conv => whnf)
    refine RunP.new (z := .slice none 0 0) Tryz.zeroValue225 ?_
    intro b7 w2 hb7 hO7 hE2
    have hs2 := hE2.size
    have hO7 : Own w2 b7 [.slice none 0 0] := hO7
    (conv => whnf)
    refine GetP.lenS Tryz.runUnderlying155 (hw3.ext hE2) ?_
    (conv => whnf)
    refine loop_only2 tyOk (fun (i : Nat) (_ : Value) => [(7, pt b7), (23, v), (24, .int .i64 l.length), (25, .int .i64 i)]) (fun i u w' => Own w' b7 [u] ∧ u.oneCell' = true ∧ Grow codSpot 159 (b7 + 1) w' u (mergeF (l.take i)) ∧ Ext w w' ∧ i ≤ l.length) (fun i _ => l.length - i) 0 (.slice none 0 0)
      (by repeat (first | exact trivial | refine ⟨rfl, ?_⟩)) ⟨hO7, rfl, Grow.nil _ _ _ _, hE1.trans hE2, by omega⟩ ?_
    rintro i u w2 ⟨hO, h1u, hG, hE, hi⟩
    have hs2 := hE.size
    have hlt7 := hO.lt
    (conv => whnf)
    refine CmpP.split (fun h => ?_) (fun h => ?_)
    · have hlt : i < l.length := by simp only [decide_eq_true_eq] at h; omega
      (conv => whnf)
      refine GetP.idxS Tryz.runUnderlying155 Tryz.sizeOf159 (hv.ext hE) (by omega) (by simpa using hlt) ?_
      intro eb eo hc
      (conv => whnf)
      refine GetP.lds tfSpot (cs := Spot.cells l[i]) rfl hc ?_
      (conv => whnf)
      refine RunP.new (z := Spot.val ⟨0, 0⟩) Tryz.zeroValue159 ?_
      intro b8 w3 hb8 hO8 hE3
      have hs3 := hE3.size
      (conv => whnf)
      refine DoP.sts0 tfSpot hO8 rfl rfl (codSpot.one l[i]) ?_
      intro w4 hO4 hU4
      have hs4 := hU4.size
      have hE4 : Ext w2 w4 := hE3.upd hU4 (by omega)
      (conv => whnf)
      refine GetP.lds tfSpot (cs := Spot.cells l[i]) rfl hO4.cells ?_
      (conv => whnf)
      have hm1 := merge_len [] (l.take i)
      have hm2 := merge_good [] (l.take i) (by simp) (fun x hx => hg x (List.mem_of_mem_take hx))
      refine CallP.does (put_ok b7 (b7 + 1) u (mergeF (l.take i)) l[i] w4 (by omega) (hO.ext hE4) h1u (hG.ext hE4) (by omega) ?_ ?_) ?_
      · intro x hx
        rcases List.mem_cons.1 hx with rfl | hx
        · exact hg _ (List.getElem_mem hlt)
        · exact hm2 x hx
      · have : (mergeF (l.take i)).length ≤ (l.take i).length := by simpa [mergeF] using hm1
        have h3 : (l.take i).length ≤ i := by simp; omega
        omega
      rintro r w5 ⟨u', hO5, h1u', hG5, hB5, _, _⟩
      (conv => whnf)
      refine NumP.to ((i + 1 : Nat) : Int) (by rw [wrap_i64]; omega) ?_
      (conv => whnf)
      refine ⟨i + 1, u', (by repeat (first | exact trivial | refine ⟨rfl, ?_⟩)), ⟨hO5, h1u', ?_, ?_, by omega⟩, by omega⟩
      · rw [mergeF_take hlt]
        exact hG5
      · exact Below.trans (hE.trans hE4) (Below.mono hB5 (by omega))
    · have hge : i = l.length := by simp only [decide_eq_false_iff_not] at h; omega
      subst hge
      rw [List.take_length] at hG
      (conv => whnf)
      refine GetP.ld tfPile (v := u) (by rw [hO.cell]; rfl) ?_
      (conv => whnf)
      exact ⟨u, rfl, hG.mono (by omega), hE⟩

end Go.Proofs.YtgeemplpgfiidaaGreatDoor.Mv
/- slices.Concat of spots. -/
namespace Go.Proofs.YtgeemplpgfiidaaGreatDoor.Mv
open Go Go.RowKit Go.Proofs

def PartsG {α : Type} (C : Cod α) (w : World) (vs : List SV) (ls : List (List α)) : Prop := vs.length = ls.length ∧ ∀ (i : Nat) (v : SV) (l : List α), vs[i]? = some v → ls[i]? = some l → Seq C w v.1 l
theorem take_flattenG {α : Type} {ls : List (List α)} {i : Nat} (h : i < ls.length) : (ls.take (i + 1)).flatten = (ls.take i).flatten ++ ls[i] := by
  rw [List.take_succ_eq_append_getElem h, List.flatten_append]; simp
theorem flat_leG {α : Type} {ls : List (List α)} {i : Nat} (h : i < ls.length) : (ls.take i).flatten.length + ls[i].length ≤ ls.flatten.length := by
  have h1 : (ls.take (i + 1)).flatten.length ≤ ls.flatten.length := by
    conv => rhs; rw [← List.take_append_drop (i + 1) ls, List.flatten_append, List.length_append]
    omega
  rw [take_flattenG h, List.length_append] at h1
  exact h1
theorem tfSpots : TyF Tryz.prog 155 false 1 := ⟨Tryz.isAgg155, Tryz.sizeOf155⟩
theorem growS_ok (n : Nat) (hn : n < 1152921504606846976) (hb : n ≤ 1048576) (w : World) :
    Does Tryz.prog 133 [.slice none 0 0, .int .i64 n] w (fun v w' => Grow codSpot 159 w.heap.size w' v [] ∧ Ext w w') := by
  (refine DoesX.of_vc tyOk Tryz.func133 rfl ⟨rfl, rfl⟩ rfl ?_; (conv => whnf))
  refine CmpP.no (by simp) ?_
  (conv => whnf)
  refine GetP.capS Tryz.runUnderlying155 ?_
  (conv => whnf)
  refine GetP.lenS Tryz.runUnderlying155 (Seq.nil codSpot w) ?_
  (conv => whnf)
  refine NumP.to 0 (by rfl) ?_
  (conv => whnf)
  refine NumP.to ((n : Nat) : Int) (by rw [wrap_i64]; omega) ?_
  (conv => whnf)
  refine CmpP.split (fun h => ?_) (fun h => ?_)
  · have h0 : 0 < n := by simp at h; omega
    (conv => whnf)
    refine GetP.capS Tryz.runUnderlying155 ?_
    (conv => whnf)
    refine GetP.subS (Seq.nil codSpot w) Tryz.runUnderlying155 Tryz.sizeOf159 0 0 (.inl ⟨rfl, rfl⟩) (.inr ⟨_, rfl⟩) (Nat.le_refl _) (Nat.le_refl _) ?_
    intro v hv hvb
    have hv0 : v = .slice none 0 0 := by
      rcases hv with ⟨h, _⟩ | ⟨b, o, cap, h, _⟩
      · exact h
      · obtain ⟨_, _, _, h⟩ := hvb b ⟨o, _, cap, h⟩
        cases h
    subst hv0
    (conv => whnf)
    refine RunP.appendZ elSpot Tryz.underlying3 h0 (by simp only [maxLen]; omega) (by omega) ?_
    intro b cap w1 hb hc hG hE
    (conv => whnf)
    refine GetP.lenS Tryz.runUnderlying155 (Seq.nil codSpot w1) ?_
    (conv => whnf)
    refine GetP.cutHi Tryz.runUnderlying155 Tryz.sizeOf159 (Nat.zero_le _) ?_
    (conv => whnf)
    exact ⟨hG, hE⟩
  · (conv => whnf)
    exact ⟨Grow.nil _ _ _ _, Ext.refl _⟩

theorem concatS_ok (v : Value) (vs : List SV) (ls : List (List Spot)) (w : World) (hv : Seq codSV w v vs) (hp : PartsG codSpot w vs ls) (hn : ls.flatten.length < 1048576) (hc : ls.length < 1152921504606846976) :
    Does Tryz.prog 87 [v] w (fun r w' => Grow codSpot 159 w.heap.size w' r ls.flatten ∧ Ext w w') := by
  (refine DoesX.of_vc tyOk Tryz.func87 rfl ⟨rfl, rfl⟩ rfl ?_; (conv => whnf))
  refine GetP.lenS Tryz.runUnderlying222 hv ?_
  (conv => whnf)
  refine loop_only tyOk (σ := Nat) (fun i => [(11, .int .i64 i), (3, .int .i64 (ls.take i).flatten.length), (0, v), (9, v), (10, .int .i64 vs.length)]) (fun i w' => w' = w ∧ i ≤ vs.length) (fun i => vs.length - i) 0
    (by repeat (first | exact trivial | refine ⟨rfl, ?_⟩)) ⟨rfl, by omega⟩ ?_
  rintro i w ⟨rfl, hi⟩
  (conv => whnf)
  refine CmpP.split (fun h => ?_) (fun h => ?_)
  · have hlt : i < vs.length := by simp at h; omega
    have hil : i < ls.length := by rw [← hp.1]; exact hlt
    have hfl := flat_leG hil
    (conv => whnf)
    refine GetP.idxS Tryz.runUnderlying222 Tryz.sizeOf155 hv (by omega) (by simpa using hlt) ?_
    intro eb eo hc
    have hpart : Seq codSpot w vs[i].1 ls[i] := (hp.2 i vs[i] ls[i] (List.getElem?_eq_getElem hlt) (List.getElem?_eq_getElem hil))
    (conv => whnf)
    refine GetP.ld (v := vs[i].1) tfSpots (by have := hc 0 vs[i].1 (by rfl); exact this) ?_
    (conv => whnf)
    refine GetP.lenS Tryz.runUnderlying155 hpart ?_
    (conv => whnf)
    refine NumP.to (((ls.take (i + 1)).flatten.length : Nat) : Int) (by rw [take_flattenG hil, List.length_append, wrap_i64]; omega) ?_
    (conv => whnf)
    (refine CmpP.no (by first | decide | (simp; done) | (simp; omega)) ?_; (conv => whnf))
    refine NumP.to ((i + 1 : Nat) : Int) (by rw [wrap_i64]; omega) ?_
    (conv => whnf)
    exact ⟨i + 1, (by repeat (first | exact trivial | refine ⟨rfl, ?_⟩)), ⟨rfl, by omega⟩, by omega⟩
  · have hge : i = vs.length := by simp at h; omega
    subst hge
    rw [hp.1, List.take_length]
    (conv => whnf)
    refine CallP.does (growS_ok ls.flatten.length (by omega) (by omega) w) ?_
    rintro r w1 ⟨hG, hE⟩
    (conv => whnf)
    refine GetP.lenS Tryz.runUnderlying222 (hv.ext hE) ?_
    (conv => whnf)
    refine loop_only tyOk (σ := Nat × Value) (fun x => [(27, .int .i64 x.1), (6, x.2), (25, v), (26, .int .i64 vs.length)]) (fun x w' => Grow codSpot 159 w.heap.size w' x.2 (ls.take x.1).flatten ∧ Below w.heap.size w w' ∧ x.1 ≤ vs.length) (fun x => vs.length - x.1) (0, r)
      (by repeat (first | exact trivial | refine ⟨rfl, ?_⟩)) ⟨hG, hE, by omega⟩ ?_
    rintro ⟨i, r⟩ w2 ⟨hG, hB, hi⟩
    simp only at hG hi
    (conv => whnf)
    refine CmpP.split (fun h => ?_) (fun h => ?_)
    · have hlt : i < vs.length := by simp at h; omega
      have hil : i < ls.length := by rw [← hp.1]; exact hlt
      have hfl := flat_leG hil
      (conv => whnf)
      refine GetP.idxS Tryz.runUnderlying222 Tryz.sizeOf155 (hv.below hB (Nat.le_refl _)) (by omega) (by simpa using hlt) ?_
      intro eb eo hc
      have hpart : Seq codSpot w2 vs[i].1 ls[i] := (hp.2 i vs[i] ls[i] (List.getElem?_eq_getElem hlt) (List.getElem?_eq_getElem hil)).below hB (Nat.le_refl _)
      (conv => whnf)
      refine GetP.ld (v := vs[i].1) tfSpots (by have := hc 0 vs[i].1 (by rfl); exact this) ?_
      (conv => whnf)
      have hs2 := hB.size
      refine RunP.append elSpot hG hpart (by simp only [maxLen]; omega) (by omega) hs2 ?_
      intro r' w3 hG3 hgr
      (conv => whnf)
      refine NumP.to ((i + 1 : Nat) : Int) (by rw [wrap_i64]; omega) ?_
      (conv => whnf)
      refine ⟨(i + 1, r'), (by repeat (first | exact trivial | refine ⟨rfl, ?_⟩)), ⟨?_, hB.trans (hG.grown_below hgr hs2), by simp only; omega⟩, by simp only; omega⟩
      rw [take_flattenG hil]
      exact hG3
    · have hge : i = vs.length := by simp at h; omega
      subst hge
      rw [hp.1, List.take_length] at hG
      (conv => whnf)
      exact ⟨hG, hB⟩

end Go.Proofs.YtgeemplpgfiidaaGreatDoor.Mv
