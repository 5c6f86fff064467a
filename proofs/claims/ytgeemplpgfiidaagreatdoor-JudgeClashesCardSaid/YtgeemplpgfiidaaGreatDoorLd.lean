/- num: contracts. -/
import Derived.Test.YtgeemplpgfiidaaGreatDoorLb
import Derived.Test.YtgeemplpgfiidaaGreatDoorLc
namespace Go.Proofs.YtgeemplpgfiidaaGreatDoor.Mv
open Go Go.RowKit Go.Proofs

/-! math/bits -/
theorem and_le_r (x y : Nat) : x &&& y ≤ y := Nat.and_le_right

theorem onesCount_ok (x : Nat) (hx : x < 18446744073709551616) (w : World) : Does Tryz.prog 148 [.int .u64 x] w (fun v w' => w' = w ∧ v = .int .i64 (ones x)) := by
  (refine DoesX.of_vc tyOk Tryz.func148 rfl ⟨rfl, rfl⟩ rfl ?_; (conv => whnf))
  refine ⟨by decide, ?_⟩
  (conv => whnf)
  refine NumP.to (((x / 2 ^ 1 &&& 6148914691236517205) + (x &&& 6148914691236517205) : Nat) : Int) ?_ ?_
  · rw [show shrV .u64 (x : Int) 1 = ((x / 2 ^ 1 : Nat) : Int) from shr64 x 1 hx]
    rw [show bitsV .and .u64 ((x / 2 ^ 1 : Nat) : Int) 6148914691236517205 = ((x / 2 ^ 1 &&& 6148914691236517205 : Nat) : Int) from and64 (x / 2 ^ 1) 6148914691236517205 (by omega) (by omega)]
    rw [show bitsV .and .u64 (x : Int) 6148914691236517205 = ((x &&& 6148914691236517205 : Nat) : Int) from and64 x 6148914691236517205 (by omega) (by omega)]
    have := and_le_r (x / 2 ^ 1) 6148914691236517205
    have := and_le_r x 6148914691236517205
    exact add64 _ _ (by omega)
  have h1 := and_le_r (x / 2 ^ 1) 6148914691236517205
  have h2 := and_le_r x 6148914691236517205
  have e1 : (x / 2 ^ 1 &&& 6148914691236517205) + (x &&& 6148914691236517205) < 18446744073709551616 := by omega
  have hs := swar_ones hx
  unfold swar at hs
  dsimp only at hs
  generalize (x / 2 ^ 1 &&& 6148914691236517205) + (x &&& 6148914691236517205) = y at *
  clear h1 h2
  (conv => whnf)
  refine ⟨by decide, ?_⟩
  (conv => whnf)
  refine NumP.to (((y / 2 ^ 2 &&& 3689348814741910323) + (y &&& 3689348814741910323) : Nat) : Int) ?_ ?_
  · rw [show shrV .u64 (y : Int) 2 = ((y / 2 ^ 2 : Nat) : Int) from shr64 y 2 e1]
    rw [show bitsV .and .u64 ((y / 2 ^ 2 : Nat) : Int) 3689348814741910323 = ((y / 2 ^ 2 &&& 3689348814741910323 : Nat) : Int) from and64 (y / 2 ^ 2) 3689348814741910323 (by omega) (by omega)]
    rw [show bitsV .and .u64 (y : Int) 3689348814741910323 = ((y &&& 3689348814741910323 : Nat) : Int) from and64 y 3689348814741910323 (by omega) (by omega)]
    have := and_le_r (y / 2 ^ 2) 3689348814741910323
    have := and_le_r y 3689348814741910323
    exact add64 _ _ (by omega)
  have h1 := and_le_r (y / 2 ^ 2) 3689348814741910323
  have h2 := and_le_r y 3689348814741910323
  have e2 : (y / 2 ^ 2 &&& 3689348814741910323) + (y &&& 3689348814741910323) ≤ 7378697629483820646 := by omega
  generalize (y / 2 ^ 2 &&& 3689348814741910323) + (y &&& 3689348814741910323) = z at *
  clear h1 h2
  (conv => whnf)
  refine ⟨by decide, ?_⟩
  (conv => whnf)
  refine NumP.to ((z / 2 ^ 4 + z : Nat) : Int) ?_ ?_
  · rw [show shrV .u64 (z : Int) 4 = ((z / 2 ^ 4 : Nat) : Int) from shr64 z 4 (by omega)]
    exact add64 _ _ (by omega)
  (conv => whnf)
  refine ⟨by decide, ?_⟩
  (conv => whnf)
  have e3 : bitsV .and .u64 ((z / 2 ^ 4 + z : Nat) : Int) 1085102592571150095 = ((z / 2 ^ 4 + z &&& 1085102592571150095 : Nat) : Int) := and64 (z / 2 ^ 4 + z) 1085102592571150095 (by omega) (by omega)
  have h3 := and_le_r (z / 2 ^ 4 + z) 1085102592571150095
  generalize (z / 2 ^ 4 + z &&& 1085102592571150095) = u at *
  refine NumP.to ((u + u / 2 ^ 8 : Nat) : Int) ?_ ?_
  · rw [e3, show shrV .u64 (u : Int) 8 = ((u / 2 ^ 8 : Nat) : Int) from shr64 u 8 (by omega)]
    exact add64 _ _ (by omega)
  have h4 : u + u / 2 ^ 8 ≤ 1089357896855742840 := by omega
  generalize u + u / 2 ^ 8 = v at *
  (conv => whnf)
  refine ⟨by decide, ?_⟩
  (conv => whnf)
  refine NumP.to ((v + v / 2 ^ 16 : Nat) : Int) ?_ ?_
  · rw [show shrV .u64 (v : Int) 16 = ((v / 2 ^ 16 : Nat) : Int) from shr64 v 16 (by omega)]
    exact add64 _ _ (by omega)
  have h5 : v + v / 2 ^ 16 ≤ 2089357896855742840 := by omega
  generalize v + v / 2 ^ 16 = r at *
  (conv => whnf)
  refine ⟨by decide, ?_⟩
  (conv => whnf)
  refine NumP.to ((r + r / 2 ^ 32 : Nat) : Int) ?_ ?_
  · rw [show shrV .u64 (r : Int) 32 = ((r / 2 ^ 32 : Nat) : Int) from shr64 r 32 (by omega)]
    exact add64 _ _ (by omega)
  have h6 : r + r / 2 ^ 32 ≤ 3089357896855742840 := by omega
  generalize r + r / 2 ^ 32 = q at *
  (conv => whnf)
  refine NumP.fit (by simp only [kmin]; omega) (by simp only [kmax]; omega) ?_
  (conv => whnf)
  refine ⟨rfl, ?_⟩
  rw [show bitsV .and .i64 (q : Int) 127 = ((q &&& 127 : Nat) : Int) from andi64 q 127 (by omega) (by omega), hs]

theorem ones_ok (x : Nat) (hx : x < 18446744073709551616) (w : World) : Does Tryz.prog 105 [.int .u64 x] w (fun v w' => w' = w ∧ v = .int .i64 (ones x)) := by
  (refine DoesX.of_vc tyOk Tryz.func105 rfl ⟨rfl, rfl⟩ rfl ?_; (conv => whnf))
  refine CallP.does (onesCount_ok x hx w) ?_
  rintro v w' ⟨rfl, rfl⟩
  (conv => whnf)
  exact ⟨rfl, rfl⟩

/-! Len64 -/
def len8 (i : Nat) (s : ByteArray) : Bool := decide ((s[i]?).map (·.toNat) = some (len i))
theorem GetP.len8 {P : Program} {S : World → Prop} {t : Nat} {s : ByteArray} {k : Value → Prop} (hu : ∀ w, (underlying t).run P w = .ok .string w) (hs : all256 (fun i => Mv.len8 i s) 256 = true)
    (z : Nat) (hz : z < 256) (hk : k (.int .u8 (len z))) : GetP P S (Instr.index t (.string s) (.int .u8 z)) k := by
  have := all256_spec hs z hz
  simp only [Mv.len8, decide_eq_true_eq, Option.map_eq_some_iff] at this
  obtain ⟨c, hc, hl⟩ := this
  exact GetP.idxStr c hu (by omega) (by simpa using hc) (by rw [hl]; exact hk)

theorem len64_ok (x : Nat) (hx : x < 18446744073709551616) (w : World) : Does Tryz.prog 168 [.int .u64 x] w (fun v w' => w' = w ∧ v = .int .i64 (len x)) := by
  have s32 : shrV .u64 (x : Int) 32 = ((x / 2 ^ 32 : Nat) : Int) := shr64 x 32 hx
  have s16 : ∀ y : Nat, y < 18446744073709551616 → shrV .u64 (y : Int) 16 = ((y / 2 ^ 16 : Nat) : Int) := fun y h => shr64 y 16 h
  have s8 : ∀ y : Nat, y < 18446744073709551616 → shrV .u64 (y : Int) 8 = ((y / 2 ^ 8 : Nat) : Int) := fun y h => shr64 y 8 h
  obtain ⟨y, a, hy, ha, hl, hR⟩ : ∃ y a : Nat, y < 4294967296 ∧ a ≤ 32 ∧ len x = len y + a ∧ ((x ≥ 4294967296 ∧ y = x / 2 ^ 32 ∧ a = 32) ∨ (x < 4294967296 ∧ y = x ∧ a = 0)) := by
    by_cases h : x ≥ 4294967296
    · exact ⟨x / 2 ^ 32, 32, by omega, by omega, len_shift (n := 32) (by omega), .inl ⟨h, rfl, rfl⟩⟩
    · exact ⟨x, 0, by omega, by omega, rfl, .inr ⟨by omega, rfl, rfl⟩⟩
  obtain ⟨z, b, hz, hb, hl2, hR2⟩ : ∃ z b : Nat, z < 65536 ∧ b ≤ 16 ∧ len y = len z + b ∧ ((y ≥ 65536 ∧ z = y / 2 ^ 16 ∧ b = 16) ∨ (y < 65536 ∧ z = y ∧ b = 0)) := by
    by_cases h : y ≥ 65536
    · exact ⟨y / 2 ^ 16, 16, by omega, by omega, len_shift (n := 16) (by omega), .inl ⟨h, rfl, rfl⟩⟩
    · exact ⟨y, 0, by omega, by omega, rfl, .inr ⟨by omega, rfl, rfl⟩⟩
  obtain ⟨u, c, hu, hc, hl3, hR3⟩ : ∃ u c : Nat, u < 256 ∧ c ≤ 8 ∧ len z = len u + c ∧ ((z ≥ 256 ∧ u = z / 2 ^ 8 ∧ c = 8) ∨ (z < 256 ∧ u = z ∧ c = 0)) := by
    by_cases h : z ≥ 256
    · exact ⟨z / 2 ^ 8, 8, by omega, by omega, len_shift (n := 8) (by omega), .inl ⟨h, rfl, rfl⟩⟩
    · exact ⟨z, 0, by omega, by omega, rfl, .inr ⟨by omega, rfl, rfl⟩⟩
  rw [hl, hl2, hl3]
  have hlu : len u ≤ 8 := len_lt.2 (by omega)
  (refine DoesX.of_vc tyOk Tryz.func168 rfl ⟨rfl, rfl⟩ rfl ?_; (conv => whnf))
  rcases hR with ⟨h, hye, rfl⟩ | ⟨h, hye, rfl⟩
  all_goals first
    | (refine CmpP.yes (by simp; omega) ?_; (conv => whnf); refine ⟨by decide, ?_⟩; (conv => whnf); rw [s32, ← hye])
    | (refine CmpP.no (by simp; omega) ?_; (conv => whnf); rw [← hye])
  all_goals rcases hR2 with ⟨h2, hze, rfl⟩ | ⟨h2, hze, rfl⟩
  all_goals first
    | (refine CmpP.yes (by simp; omega) ?_; (conv => whnf); refine ⟨by decide, ?_⟩; (conv => whnf); refine NumP.fit (by decide) (by decide) ?_; (conv => whnf); rw [s16 y (by omega), ← hze])
    | (refine CmpP.no (by simp; omega) ?_; (conv => whnf); rw [← hze])
  all_goals rcases hR3 with ⟨h3, hue, rfl⟩ | ⟨h3, hue, rfl⟩
  all_goals first
    | (refine CmpP.yes (by simp; omega) ?_; (conv => whnf); refine ⟨by decide, ?_⟩; (conv => whnf); refine NumP.fit (by decide) (by decide) ?_; (conv => whnf); rw [s8 z (by omega), ← hue])
    | (refine CmpP.no (by simp; omega) ?_; (conv => whnf); rw [← hue])
  all_goals
    refine NumP.fit (by simp only [kmin]; omega) (by simp only [kmax]; omega) ?_
    (conv => whnf)
    refine GetP.len8 Tryz.runUnderlying9 (by decide +kernel) u hu ?_
    (conv => whnf)
    refine NumP.fit (by simp only [kmin]; omega) (by simp only [kmax]; omega) ?_
    (conv => whnf)
    refine NumP.fit (by simp only [kmin]; omega) (by simp only [kmax]; omega) ?_
    (conv => whnf)
    refine ⟨rfl, ?_⟩
    congr 1
    omega

/-- The highest set bit; -1 of 0. -/
def high (x : Nat) : Int := (len x : Int) - 1
theorem high_ok (x : Nat) (hx : x < 18446744073709551616) (w : World) : Does Tryz.prog 132 [.int .u64 x] w (fun v w' => w' = w ∧ v = .int .i64 (high x)) := by
  have hl : len x ≤ 64 := len_lt.2 (by omega)
  (refine DoesX.of_vc tyOk Tryz.func132 rfl ⟨rfl, rfl⟩ rfl ?_; (conv => whnf))
  refine CallP.does (len64_ok x hx w) ?_
  rintro v w' ⟨rfl, rfl⟩
  (conv => whnf)
  refine NumP.fit (by simp only [kmin]; omega) (by simp only [kmax]; omega) ?_
  (conv => whnf)
  exact ⟨rfl, rfl⟩

/-! TrailingZeros64 -/
theorem br_ok : ∀ k, k < 64 → (brL.map fun n : Nat => Value.int .u8 n)[2 ^ k * 285870213051353865 % 18446744073709551616 / 2 ^ 58]? = some (.int .u8 (k : Int)) := by
  intro k hk
  have := all256_spec (p := fun k => decide (brL[2 ^ k * 285870213051353865 % 18446744073709551616 / 2 ^ 58]? = some k)) (n := 64) (by decide +kernel) k hk
  rw [List.getElem?_map]
  simp only [decide_eq_true_eq] at this
  rw [this]
  rfl
theorem low0 : low 0 = 64 := by decide
theorem trailing_ok (x : Nat) (hx : x < 18446744073709551616) (w : World) (hG : Glob w) : Does Tryz.prog 167 [.int .u64 x] w (fun v w' => w' = w ∧ v = .int .i64 (low x)) := by
  have hl := low_le x
  (refine DoesX.of_vc tyOk Tryz.func167 rfl ⟨rfl, rfl⟩ rfl ?_; (conv => whnf))
  by_cases h0 : x = 0
  · subst h0
    refine CmpP.yes (by decide) ?_
    (conv => whnf)
    exact ⟨rfl, by rw [low0]; rfl⟩
  · refine CmpP.no (by simpa using h0) ?_
    (conv => whnf)
    refine NumP.to ((18446744073709551616 - x : Nat) : Int) (by rw [wrap_u64]; omega) ?_
    (conv => whnf)
    refine NumP.to ((2 ^ low x * 285870213051353865 % 18446744073709551616 : Nat) : Int) ?_ ?_
    · rw [and64 x (18446744073709551616 - x) hx (by omega), low_and (by omega) hx]
      rw [show ((2 ^ low x : Nat) : Int) * 285870213051353865 = ((2 ^ low x * 285870213051353865 : Nat) : Int) by simp, wrap64_nat]
    (conv => whnf)
    refine ⟨by decide, ?_⟩
    (conv => whnf)
    rw [show shrV .u64 ((2 ^ low x * 285870213051353865 % 18446744073709551616 : Nat) : Int) 58 = ((2 ^ low x * 285870213051353865 % 18446744073709551616 / 2 ^ 58 : Nat) : Int) from shr64 _ 58 (by omega)]
    refine ⟨⟨by omega, by omega⟩, ?_⟩
    have hlt := low_lt (by omega) hx
    (conv => whnf)
    refine GetP.ld ⟨Tryz.isAgg5, Tryz.sizeOf5⟩ (v := .int .u8 (low x)) ?_ ?_
    · have := hG.bruijn _ _ (br_ok (low x) hlt)
      rw [Int.toNat_natCast, Nat.mul_one]
      exact this
    (conv => whnf)
    refine NumP.fit (by simp only [kmin]; omega) (by simp only [kmax]; omega) ?_
    (conv => whnf)
    exact ⟨rfl, rfl⟩

theorem low_ok (x : Nat) (hx : x < 18446744073709551616) (w : World) (hG : Glob w) : Does Tryz.prog 131 [.int .u64 x] w (fun v w' => w' = w ∧ v = .int .i64 (low x)) := by
  (refine DoesX.of_vc tyOk Tryz.func131 rfl ⟨rfl, rfl⟩ rfl ?_; (conv => whnf))
  refine CallP.does (trailing_ok x hx w hG) ?_
  rintro v w' ⟨rfl, rfl⟩
  (conv => whnf)
  exact ⟨rfl, rfl⟩

theorem mask_ok (n : Nat) (hn : n ≤ 64) (w : World) : Does Tryz.prog 53 [.int .i64 n] w (fun v w' => w' = w ∧ v = .int .u64 ((2 ^ n - 1 : Nat) : Int)) := by
  (refine DoesX.of_vc tyOk Tryz.func53 rfl ⟨rfl, rfl⟩ rfl ?_; (conv => whnf))
  refine CmpP.split (fun h => ?_) (fun h => ?_)
  · (conv => whnf)
    have : n = 0 := by simpa using h
    subst this
    exact ⟨rfl, rfl⟩
  · (conv => whnf)
    refine NumP.fit (by simp only [kmin]; omega) (by simp only [kmax]; omega) ?_
    (conv => whnf)
    refine ⟨by omega, ?_⟩
    (conv => whnf)
    refine NumP.to ((2 ^ n - 1 : Nat) : Int) ?_ ?_
    · rw [show shlV .u64 1 (n : Int) = ((1 * 2 ^ n % 18446744073709551616 : Nat) : Int) from shl64 1 n, Nat.one_mul]
      have hpos := Nat.two_pow_pos n
      rcases Nat.lt_or_ge n 64 with h64 | h64
      · have : 2 ^ n < 2 ^ 64 := Nat.pow_lt_pow_right (by omega) h64
        rw [wrap_u64]; omega
      · have : n = 64 := by omega
        subst this
        decide
    (conv => whnf)
    exact ⟨rfl, rfl⟩

theorem shr_ok (x n : Nat) (hx : x < 18446744073709551616) (hn : n < 9223372036854775808) (w : World) : Does Tryz.prog 229 [.int .u64 x, .int .i64 n] w (fun v w' => w' = w ∧ v = .int .u64 ((x / 2 ^ n : Nat) : Int)) := by
  (refine DoesX.of_vc tyOk Tryz.func229 rfl ⟨rfl, rfl⟩ rfl ?_; (conv => whnf))
  refine CmpP.no (by simp) ?_
  (conv => whnf)
  refine NumP.fit (by simp only [kmin]; omega) (by simp only [kmax]; omega) ?_
  (conv => whnf)
  refine ⟨by omega, ?_⟩
  (conv => whnf)
  exact ⟨rfl, by rw [shr64 x n hx]⟩

theorem field_ok (x a n : Nat) (hx : x < 18446744073709551616) (ha : a < 9223372036854775808) (hn : n ≤ 64) (w : World) :
    Does Tryz.prog 213 [.int .u64 x, .int .i64 a, .int .i64 n] w (fun v w' => w' = w ∧ v = .int .u64 ((x / 2 ^ a % 2 ^ n : Nat) : Int)) := by
  (refine DoesX.of_vc tyOk Tryz.func213 rfl ⟨rfl, rfl⟩ rfl ?_; (conv => whnf))
  refine CallP.does (shr_ok x a hx ha w) ?_
  rintro v w' ⟨rfl, rfl⟩
  (conv => whnf)
  refine CallP.does (mask_ok n hn w') ?_
  rintro v w'' ⟨rfl, rfl⟩
  (conv => whnf)
  refine ⟨rfl, ?_⟩
  have h1 : x / 2 ^ a < 18446744073709551616 := Nat.lt_of_le_of_lt (Nat.div_le_self _ _) hx
  have h2 : 2 ^ n ≤ 2 ^ 64 := Nat.pow_le_pow_right (by omega) hn
  rw [and64 _ _ h1 (by omega), Nat.and_two_pow_sub_one_eq_mod]

/-! Numbers as bytes -/
theorem or_add (a b : Nat) (h : b < 256) : a * 256 ||| b = a * 256 + b := by
  have := Nat.shiftLeft_add_eq_or_of_lt (b := b) (i := 8) (by simpa using h) a
  rw [Nat.shiftLeft_eq] at this
  exact this.symm

theorem fromBig_take (l : List UInt8) (i : Nat) (h : i < l.length) : fromBig (l.take (i + 1)) = fromBig (l.take i) * 256 + l[i].toNat := by
  unfold fromBig
  rw [List.take_succ_eq_append_getElem h, List.foldl_append]
  rfl
theorem fromBig_lt (l : List UInt8) : fromBig l < 256 ^ l.length := by
  unfold fromBig
  have : ∀ (l : List UInt8) a k, a < 256 ^ k → l.foldl (fun x (b : UInt8) => x * 256 + b.toNat) a < 256 ^ (k + l.length) := by
    intro l
    induction l with
    | nil => intro a k h; simpa using h
    | cons b r ih =>
      intro a k h
      have := ih (a * 256 + b.toNat) (k + 1) (by have := b.toNat_lt; rw [Nat.pow_succ]; omega)
      simp only [List.foldl_cons, List.length_cons]
      rw [show k + (r.length + 1) = k + 1 + r.length by omega]
      exact this
  have := this l 0 0 (by simp)
  simpa using this

theorem fromBig_ok (v : Value) (l : List UInt8) (hl : l.length ≤ 8) (w : World) (hv : Seq codByte w v l) :
    Does Tryz.prog 211 [v] w (fun r w' => w' = w ∧ r = .tuple #[.int .u64 (fromBig l), .int .i64 0]) := by
  (refine DoesX.of_vc tyOk Tryz.func211 rfl ⟨rfl, rfl⟩ rfl ?_; (conv => whnf))
  refine GetP.lenS Tryz.runUnderlying25 hv ?_
  (conv => whnf)
  refine CmpP.no (by simp; omega) ?_
  (conv => whnf)
  refine GetP.lenS Tryz.runUnderlying25 hv ?_
  (conv => whnf)
  refine loop_only tyOk (σ := Nat) (fun i => [(4, .int .u64 (fromBig (l.take i))), (10, v), (11, .int .i64 l.length), (12, .int .i64 i)]) (fun i w' => w' = w ∧ i ≤ l.length) (fun i => l.length - i) 0 (by repeat (first | exact trivial | refine ⟨rfl, ?_⟩)) ⟨rfl, by omega⟩ ?_
  rintro i _ ⟨rfl, hi⟩
  (conv => whnf)
  refine CmpP.split (fun h => ?_) (fun h => ?_)
  · have hlt : i < l.length := by simpa using h
    (conv => whnf)
    refine GetP.idxS Tryz.runUnderlying25 Tryz.sizeOf5 hv (by omega) (by omega) ?_
    intro b o hc
    (conv => whnf)
    refine GetP.ld ⟨Tryz.isAgg5, Tryz.sizeOf5⟩ (v := byteV l[i]) ?_ ?_
    · have := hc 0 (byteV l[i]) (by simp [codByte])
      exact this
    (conv => whnf)
    refine ⟨by decide, ?_⟩
    (conv => whnf)
    have hb := l[i].toNat_lt
    refine NumP.fit (by simp only [kmin]; omega) (by simp only [kmax]; omega) ?_
    (conv => whnf)
    refine NumP.fit (by simp only [kmin]; omega) (by simp only [kmax]; omega) ?_
    (conv => whnf)
    have hx := fromBig_lt (l.take i)
    have hx2 : 256 ^ (l.take i).length ≤ 256 ^ 7 := Nat.pow_le_pow_right (by omega) (by rw [List.length_take]; omega)
    refine ⟨i + 1, ⟨?_, rfl, rfl, rfl, rfl, trivial⟩, ⟨rfl, by omega⟩, by omega⟩
    · show some (Value.int .u64 (bitsV .or .u64 (shlV .u64 (fromBig (l.take i) : Int) 8) (l[i].toNat : Int))) = _
      rw [show shlV .u64 (fromBig (l.take i) : Int) 8 = ((fromBig (l.take i) * 2 ^ 8 % 18446744073709551616 : Nat) : Int) from shl64 _ 8]
      rw [or64 _ _ (by omega) (by omega), fromBig_take l i hlt]
      rw [Nat.mod_eq_of_lt (by omega), show (2 : Nat) ^ 8 = 256 from rfl, or_add _ _ hb]
  · have hge : i = l.length := by
      have : ¬ i < l.length := by simpa using h
      omega
    subst hge
    (conv => whnf)
    refine ⟨rfl, ?_⟩
    rw [List.take_length]
end Go.Proofs.YtgeemplpgfiidaaGreatDoor.Mv
/- hash: contracts. -/
namespace Go.Proofs.YtgeemplpgfiidaaGreatDoor.Mv
open Go Go.RowKit Go.Proofs
theorem mixed : Tryz.prog.follows .mixedOrders = true := by kernel_rfl
theorem tfHash : TyF Tryz.prog 24 true 32 := ⟨Tryz.isAgg24, Tryz.sizeOf24⟩
theorem tfU8 : TyF Tryz.prog 5 false 1 := ⟨Tryz.isAgg5, Tryz.sizeOf5⟩
theorem tfU32 : TyF Tryz.prog 270 false 1 := ⟨Tryz.isAgg270, Tryz.sizeOf270⟩
theorem tfU64 : TyF Tryz.prog 22 false 1 := ⟨Tryz.isAgg22, Tryz.sizeOf22⟩
theorem tfInt : TyF Tryz.prog 3 false 1 := ⟨Tryz.isAgg3, Tryz.sizeOf3⟩
theorem tfBlk : TyF Tryz.prog 237 true 64 := ⟨Tryz.isAgg237, Tryz.sizeOf237⟩
theorem tfM : TyF Tryz.prog 273 true 64 := ⟨Tryz.isAgg273, Tryz.sizeOf273⟩
theorem tfV : TyF Tryz.prog 276 true 8 := ⟨Tryz.isAgg276, Tryz.sizeOf276⟩

theorem cut_ok (wd : Int) (h : H) (w : World) : Does Tryz.prog 143 [.int .i64 wd, H.val h] w (fun v w' => v = H.val (cutH wd h) ∧ Ext w w') := by
  have hw := width_le wd
  have h32 := h.2
  (refine DoesX.of_vc tyOk Tryz.func143 rfl ⟨rfl, rfl⟩ rfl ?_; (conv => whnf))
  refine RunP.box ?_
  intro b1 w1 hb1 hO1 hE1
  (conv => whnf)
  refine RunP.new Tryz.zeroValue24 ?_
  intro b2 w2 hb2 hO2 hE2
  (conv => whnf)
  refine GetP.max2 ?_
  (conv => whnf)
  refine GetP.min2 ?_
  (conv => whnf)
  have hwe : (if 32 < (if 1 > wd then 1 else wd) then 32 else if 1 > wd then 1 else wd) = (width wd : Int) := by
    have := width_pos wd
    unfold width at *
    split at this <;> split <;> omega
  rw [hwe]
  refine GetP.arrFrom Tryz.runUnderlying24 Tryz.sizeOf5 hw ?_
  (conv => whnf)
  have hlt1 := hO1.lt
  have hO1 : Own w2 b1 (H.cells h) := by
    have := hO1.ext hE2
    simpa [H.val, Value.cells] using this
  refine RunP.clearB Tryz.runUnderlying25 Tryz.zeroValue5 hO1 (by rw [H.len]; split <;> omega) ?_
  intro w3 hO3 hU3
  (conv => whnf)
  have hlist : (if 32 = width wd then 0 else width wd * 1) + (32 - width wd) ≤ 32 := by split <;> omega
  have hc : (H.cells h).take (if 32 = width wd then 0 else width wd * 1) ++ List.replicate (32 - width wd) (Value.int .u8 0) ++ (H.cells h).drop ((if 32 = width wd then 0 else width wd * 1) + (32 - width wd)) = H.cells (cutH wd h) := by
    by_cases he : 32 = width wd
    · rw [if_pos he]
      simp [H.cells, cutH, ← he]
      rw [List.take_of_length_le (by simp; omega)]
    · rw [if_neg he]
      rw [Nat.mul_one, show width wd + (32 - width wd) = 32 by omega, List.drop_eq_nil_of_le (by rw [H.len]; omega), List.append_nil]
      simp [H.cells, cutH, List.map_take]
      exact Or.inr rfl
  rw [hc] at hO3
  refine GetP.lds tfHash (H.len _) hO3.cells ?_
  (conv => whnf)
  have hz : Own w3 b2 _ := hO2.upd hU3 (by omega)
  refine DoP.sts0 tfHash hz (H.len _) (by rfl) (bytes_one _) ?_
  intro w4 hO4 hU4
  (conv => whnf)
  refine GetP.ress tfHash (H.len _) hO4.cells ?_
  (conv => whnf)
  refine ⟨rfl, ?_⟩
  have s1 := hE1.size
  have s2 := hE2.size
  have s3 := hU3.size
  exact below_upd (below_upd (hE1.trans hE2) hU3 (by omega) (by omega)) hU4 (by omega) (by omega)
theorem rot_ok (x : Int) (n : Nat) (h0 : 1 ≤ n) (h1 : n ≤ 31) (w : World) : Does Tryz.prog 182 [.int .u32 x, .int .i64 n] w (fun v w' => w' = w ∧ v = .int .u32 (rotr x n)) := by
  (refine DoesX.of_vc tyOk Tryz.func182 rfl ⟨rfl, rfl⟩ rfl ?_; (conv => whnf))
  (refine NumP.fit (by first | decide | (simp only [kmin]; omega)) (by first | decide | (simp only [kmax]; omega)) ?_; (conv => whnf))
  refine CallP.does (R := fun v w' => w' = w ∧ v = .int .u32 (rotr x n)) ?_ ?_
  · (refine DoesX.of_vc tyOk Tryz.func212 rfl ⟨rfl, rfl⟩ rfl ?_; (conv => whnf))
    refine NumP.to ((18446744073709551616 - n : Nat) : Int) (by rw [wrap_u64]; omega) ?_
    (conv => whnf)
    have ha : bitsV .and .u64 ((18446744073709551616 - n : Nat) : Int) 31 = ((32 - n : Nat) : Int) := by
      rw [show bitsV .and .u64 ((18446744073709551616 - n : Nat) : Int) 31 = ((18446744073709551616 - n &&& 31 : Nat) : Int) from and64 _ 31 (by omega) (by omega)]
      rw [show (18446744073709551616 - n) &&& 31 = (18446744073709551616 - n) % 2 ^ 5 from Nat.and_two_pow_sub_one_eq_mod _ 5]
      omega
    rw [ha]
    (refine ReqP.mk (by first | decide | omega | (constructor <;> omega)) ?_; (conv => whnf))
    refine NumP.to ((n : Nat) : Int) (by rw [wrap_u64]; omega) ?_
    (conv => whnf)
    (refine ReqP.mk (by first | decide | omega | (constructor <;> omega)) ?_; (conv => whnf))
    exact ⟨rfl, rfl⟩
  rintro v w' ⟨rfl, rfl⟩
  (conv => whnf)
  exact ⟨rfl, rfl⟩

theorem word_ok (v : Value) (l : List UInt8) (i : Nat) (hi : 4 * i + 4 ≤ l.length) (hl : l.length ≤ 1000000) (w : World) (hv : Seq codByte w v l) :
    Does Tryz.prog 181 [v, .int .i64 i] w (fun r w' => w' = w ∧ r = .int .u32 (wordF l i)) := by
  (refine DoesX.of_vc tyOk Tryz.func181 rfl ⟨rfl, rfl⟩ rfl ?_; (conv => whnf))
  refine NumP.to ((4 * i : Nat) : Int) (by rw [wrap_i64]; omega) ?_
  (conv => whnf)
  refine NumP.to ((4 * i : Nat) : Int) (by rw [wrap_i64]; omega) ?_
  (conv => whnf)
  refine NumP.to ((4 * i + 4 : Nat) : Int) (by rw [wrap_i64]; omega) ?_
  (conv => whnf)
  refine GetP.subS hv Tryz.runUnderlying25 Tryz.sizeOf5 (4 * i) (4 * i + 4) (.inr ⟨_, rfl⟩) (.inr ⟨_, rfl⟩) (by omega) hi ?_
  intro v' hv' _
  (conv => whnf)
  refine CallP.does (fromBig_ok v' _ (by simp; omega) w hv') ?_
  rintro r w' ⟨rfl, rfl⟩
  (conv => whnf)
  have hlt := fromBig_lt ((l.take (4 * i + 4)).drop (4 * i))
  have hle : 256 ^ ((l.take (4 * i + 4)).drop (4 * i)).length ≤ 256 ^ 4 := Nat.pow_le_pow_right (by omega) (by simp; omega)
  refine NumP.fit (by simp only [kmin]; omega) (by simp only [kmax]; omega) ?_
  (conv => whnf)
  exact ⟨rfl, rfl⟩

/-! Big -/
theorem bigL_get (x : Nat) : ∀ n i, i < n → (bigL x n)[n - 1 - i]? = some (UInt8.ofNat (x / 256 ^ i % 256))
  | n + 1, i, h => by
    by_cases he : i = n
    · subst he
      rw [show i + 1 - 1 - i = 0 by omega]
      simp [bigL]
    · rw [show n + 1 - 1 - i = (n - 1 - i) + 1 by omega]
      simp only [bigL, List.getElem?_cons_succ]
      exact bigL_get x n i (by omega)

theorem andNot0 (x n : Nat) (hx : x < 18446744073709551616) (hn : n ≤ 64) (h : x < 2 ^ n) : bitsV .andNot .u64 (x : Int) ((2 ^ n - 1 : Nat) : Int) = 0 := by
  have hp : 2 ^ n ≤ 2 ^ 64 := Nat.pow_le_pow_right (by omega) hn
  have hpos := Nat.two_pow_pos n
  show IntKind.u64.wrap ((BitVec.ofInt 64 (x : Int) &&& ~~~ BitVec.ofInt 64 ((2 ^ n - 1 : Nat) : Int) : BitVec 64).toNat : Int) = _
  rw [BitVec.toNat_and, BitVec.toNat_not, toNat_ofInt64 x hx, toNat_ofInt64 _ (by omega)]
  have : x &&& (2 ^ 64 - 1 - (2 ^ n - 1)) = 0 := by
    apply Nat.eq_of_testBit_eq
    intro i
    rw [Nat.testBit_and, Nat.zero_testBit]
    by_cases hi : i < n
    · rw [show 2 ^ 64 - 1 - (2 ^ n - 1) = 2 ^ 64 - ((2 ^ n - 1) + 1) by omega, Nat.testBit_two_pow_sub_succ (by omega)]
      simp [Nat.testBit_two_pow_sub_one, hi]
    · rw [Nat.testBit_lt_two_pow (Nat.lt_of_lt_of_le h (Nat.pow_le_pow_right (by omega) (by omega)))]
      simp
  rw [this]
  rfl

theorem made_one (n : Nat) : (madeCells (Value.int .u8 0).cells (n * 1)).toList = List.replicate n (Value.int .u8 0) := by
  apply List.ext_getElem
  · simp [madeCells, Value.cells]
  · intro i h1 h2; simp [madeCells, Value.cells, Nat.mod_one]

theorem big_ok (x n : Nat) (hx : x < 256 ^ n) (hn : n ≤ 8) (w : World) :
    Does Tryz.prog 183 [.int .u64 x, .int .i64 n] w (fun r w' => ∃ v, r = .tuple #[v, .int .i64 0] ∧ Seq codByte w' v (bigL x n) ∧ Ext w w') := by
  have hp : (256 : Nat) ^ n = 2 ^ (8 * n) := by rw [Nat.pow_mul]
  have hx64 : x < 18446744073709551616 := by
    have : 2 ^ (8 * n) ≤ 2 ^ 64 := Nat.pow_le_pow_right (by omega) (by omega)
    omega
  (refine DoesX.of_vc tyOk Tryz.func183 rfl ⟨rfl, rfl⟩ rfl ?_; (conv => whnf))
  refine CmpP.no (by simp) ?_
  (conv => whnf)
  refine CmpP.no (by simp; omega) ?_
  (conv => whnf)
  refine NumP.to ((8 * n : Nat) : Int) (by rw [wrap_i64]; omega) ?_
  (conv => whnf)
  refine CallP.does (mask_ok (8 * n) (by omega) w) ?_
  rintro r w ⟨rfl, rfl⟩
  (conv => whnf)
  rw [andNot0 x (8 * n) hx64 (by omega) (by rw [← hp]; exact hx)]
  refine CmpP.no (by decide) ?_
  (conv => whnf)
  refine RunP.make (z := .int .u8 0) (size := 1) (bytes := 1) Tryz.underlying25 ⟨Tryz.t5, by kernel_rfl, by kernel_rfl, by kernel_rfl, by kernel_rfl⟩ (by omega) (by simp only [maxLen]; omega) ?_
  intro b w1 hb hO hE _
  (conv => whnf)
  refine GetP.lenS Tryz.runUnderlying25 (C := codByte) (l := List.replicate n 0) (.inr ⟨b, 0, n, by rw [List.length_replicate], by simp, hO.lt, ?_⟩) ?_
  · rw [codByte_all, List.map_replicate]
    have := hO.cells
    rwa [made_one] at this
  rw [List.length_replicate]
  (conv => whnf)
  refine loop_only tyOk (σ := Nat) (fun i => [(0, .int .u64 x), (1, .int .i64 n), (6, .slice (some ⟨b, 0, none⟩) n n), (25, .int .i64 n), (26, .int .i64 i)]) (fun i w' => Own w' b (List.replicate (n - i) (.int .u8 0) ++ (bigL x i).map byteV) ∧ Ext w w' ∧ i ≤ n) (fun i => n - i) 0 (by repeat (first | exact trivial | refine ⟨rfl, ?_⟩)) ⟨?_, hE, by omega⟩ ?_
  · rw [made_one] at hO
    simpa [bigL] using hO
  rintro i w2 ⟨hO2, hE2, hi⟩
  (conv => whnf)
  refine CmpP.split (fun h => ?_) (fun h => ?_)
  · have hlt : i < n := by simpa using h
    (conv => whnf)
    refine NumP.to ((n - 1 : Nat) : Int) (by rw [wrap_i64]; omega) ?_
    (conv => whnf)
    refine NumP.to ((n - 1 - i : Nat) : Int) (by rw [wrap_i64]; omega) ?_
    (conv => whnf)
    refine NumP.to ((8 * i : Nat) : Int) (by rw [wrap_i64]; omega) ?_
    (conv => whnf)
    refine CallP.does (field_ok x (8 * i) 8 hx64 (by omega) (by omega) w2) ?_
    rintro v w2 ⟨rfl, rfl⟩
    (conv => whnf)
    refine NumP.to ((x / 256 ^ i % 256 : Nat) : Int) ?_ ?_
    · rw [show (256 : Nat) ^ i = 2 ^ (8 * i) by rw [Nat.pow_mul]]
      rw [wrap_u8]
      omega
    (conv => whnf)
    refine GetP.idxO Tryz.runUnderlying25 Tryz.sizeOf5 (by omega) ?_
    (conv => whnf)
    refine DoP.st tfU8 rfl hO2 (by simp [bigL_len]; omega) rfl ?_
    intro w3 hO3 hU3
    (conv => whnf)
    refine NumP.to ((i + 1 : Nat) : Int) (by rw [wrap_i64]; omega) ?_
    (conv => whnf)
    refine ⟨i + 1, (by repeat (first | exact trivial | refine ⟨rfl, ?_⟩)), ⟨?_, below_upd hE2 hU3 hb hE2.size, by omega⟩, by omega⟩
    have e : (List.replicate (n - i) (Value.int .u8 0) ++ (bigL x i).map byteV).set (0 + (n - 1 - i) * 1) (.int .u8 ((x / 256 ^ i % 256 : Nat) : Int)) = List.replicate (n - (i + 1)) (Value.int .u8 0) ++ (bigL x (i + 1)).map byteV := by
      rw [show n - i = (n - (i + 1)) + 1 by omega, List.replicate_succ', List.append_assoc]
      rw [List.set_append_right _ _ (by simp; omega)]
      congr 1
      rw [List.length_replicate, show 0 + (n - 1 - i) * 1 - (n - (i + 1)) = 0 by omega]
      simp only [List.cons_append, List.nil_append, List.set_cons_zero, bigL, List.map_cons, byteV]
      congr 2
      rw [UInt8.toNat_ofNat_of_lt' (by show x / 256 ^ i % 256 < 256; exact Nat.mod_lt _ (by omega))]
    rw [e] at hO3
    exact hO3
  · have hge : i = n := by
      have : ¬ i < n := by simpa using h
      omega
    subst hge
    (conv => whnf)
    refine ⟨_, rfl, ?_, hE2⟩
    rw [Nat.sub_self] at hO2
    simp only [List.replicate_zero, List.nil_append] at hO2
    have := hO2.seqByte
    rwa [bigL_len] at this
end Go.Proofs.YtgeemplpgfiidaaGreatDoor.Mv
/- hash.Compress. -/
namespace Go.Proofs.YtgeemplpgfiidaaGreatDoor.Mv
open Go Go.RowKit Go.Proofs

def pt (b : Nat) : Value := .pointer (some ⟨b, 0, none⟩)
def wV (x : Int) : Value := .int .u32 x
theorem words_one (l : List Int) : ∀ u ∈ l.map wV, u.oneCell' = true := by
  intro u hu
  obtain ⟨b, _, rfl⟩ := List.mem_map.1 hu
  rfl
theorem get_words (l : List Int) (r : List Value) (i : Nat) (h : i < l.length) : (l.map wV ++ r)[0 + i * 1]? = some (.int .u32 (l.getD i 0)) := by
  rw [Nat.zero_add, Nat.mul_one, List.getElem?_append_left (by rw [List.length_map]; exact h), List.getElem?_map, List.getD_eq_getElem?_getD, List.getElem?_eq_getElem h]
  rfl
theorem set_words (l : List Int) (n i : Nat) (x : Int) (h : l.length = i) (hi : i < n) :
    (l.map wV ++ List.replicate (n - i) (Value.int .u32 0)).set (0 + i * 1) (.int .u32 x) = (l ++ [x]).map wV ++ List.replicate (n - (i + 1)) (Value.int .u32 0) := by
  rw [List.set_append_right _ _ (by simp; omega), show n - i = (n - (i + 1)) + 1 by omega, List.replicate_succ]
  simp only [List.length_map, h, show 0 + i * 1 - i = 0 by omega, List.set_cons_zero, List.map_append, List.append_assoc, List.map_cons, List.map_nil, List.cons_append, List.nil_append]
  rfl
theorem get_k (i : Nat) (h : i < 64) : (kL.map u32V)[i]? = some (.int .u32 (kL.getD i 0 : Nat)) := by
  rw [List.getElem?_map, List.getD_eq_getElem?_getD, List.getElem?_eq_getElem (by exact h)]
  rfl

theorem get_words1 (l : List Int) (i : Nat) (h : i < l.length) : (l.map wV)[0 + i * 1]? = some (.int .u32 (l.getD i 0)) := by
  have := get_words l [] i h
  rwa [List.append_nil] at this
theorem rounds_len (m v : List Int) (h : v.length = 8) : ∀ i, (rounds m v i).length = 8
  | 0 => h
  | _ + 1 => rfl

theorem rot_ok' (x : Int) (n : Nat) (h0 : 1 ≤ n) (h1 : n ≤ 31) (w : World) : Does Tryz.prog 182 [.int .u32 x, .int .i64 n] w (fun v w' => w' = w ∧ ∃ z, z = rotr x n ∧ v = .int .u32 z) :=
  DoesX.mono (rot_ok x n h0 h1 w) (fun v w' h => ⟨h.1, _, rfl, h.2⟩) (fun _ _ h => h)

theorem compress_eq (wd : Int) (st : H) (blk : List UInt8) {m s v : List Int} (hm : m = sched blk 64) (hs : s = words8 st.1 8) (hv : v = rounds m s 64) :
    compress wd st blk = cutH wd ⟨outL s v 8, outL_len s v 8⟩ := by
  have e : outL s v 8 = outL (words8 st.1 8) (rounds (sched blk 64) (words8 st.1 8) 64) 8 := by rw [hv, hm, hs]
  rw [compress]
  exact congrArg (cutH wd) (Subtype.ext e.symm)

theorem set_out (l x : List UInt8) (i : Nat) (hi : i < 8) (hl : l.length = 4 * i) :
    (l.map byteV ++ List.replicate (32 - 4 * i) (Value.int .u8 0)).take (4 * i * 1) ++ x.map byteV ++ (l.map byteV ++ List.replicate (32 - 4 * i) (Value.int .u8 0)).drop (4 * i * 1 + 4) = (l ++ x).map byteV ++ List.replicate (32 - 4 * (i + 1)) (Value.int .u8 0) := by
  rw [Nat.mul_one, List.take_left' (by simp [hl]), List.drop_append, List.drop_eq_nil_of_le (by simp [hl]), List.nil_append, List.drop_replicate, List.map_append]
  congr 2
  simp [hl]
  omega

theorem Own.cast {w : World} {b : Nat} {cs ds : List Value} (h : Own w b cs) (e : cs = ds) : Own w b ds := e ▸ h

set_option maxRecDepth 8000 in
set_option maxHeartbeats 1000000 in
theorem compress_ok (wd : Int) (st : H) (blk : List UInt8) (hb : blk.length = 64) (w : World) (hg : GlobH w) :
    Does Tryz.prog 144 [.int .i64 wd, H.val st, .agg (blk.map byteV).toArray] w (fun r w' => r = H.val (compress wd st blk) ∧ Ext w w') := by
  (refine DoesX.of_vc tyOk Tryz.func144 rfl ⟨rfl, rfl⟩ rfl ?_; (conv => whnf))
  refine RunP.box ?_
  intro b4 w1 hb4 hO4 hE1
  (conv => whnf)
  refine RunP.box ?_
  intro b5 w2 hb5 hO5 hE2
  (conv => whnf)
  refine RunP.new (z := .agg (Array.replicate 32 (.int .u8 0))) Tryz.zeroValue24 ?_
  intro b6 w3 hb6 hO6 hE3
  (conv => whnf)
  refine RunP.new (z := .agg (Array.replicate 64 (.int .u32 0))) Tryz.zeroValue273 ?_
  intro b7 w4 hb7 hO7 hE4
  have l4 := hO4.lt
  have l5 := hO5.lt
  have l6 := hO6.lt
  have l7 := hO7.lt
  have s1 := hE1.size
  have s2 := hE2.size
  have s3 := hE3.size
  have s4 := hE4.size
  have hO4 : Own w4 b4 (st.1.map byteV) := ((hO4.ext hE2).ext hE3).ext hE4
  have hO5 : Own w4 b5 (blk.map byteV) := (hO5.ext hE3).ext hE4
  have hO6 : Own w4 b6 (List.replicate 32 (.int .u8 0)) := hO6.ext hE4
  have hO7 : Own w4 b7 (List.replicate 64 (.int .u32 0)) := hO7
  have hE : Ext w w4 := ((hE1.trans hE2).trans hE3).trans hE4
  clear hE1 hE2 hE3 hE4
  (conv => whnf)
  refine loop_only tyOk (σ := Nat) (fun i => [(29, .int .i64 i), (0, .int .i64 wd), (4, pt b4), (5, pt b5), (6, pt b6), (7, pt b7)]) (fun i w' => Own w' b7 ((sched blk i).map wV ++ List.replicate (64 - i) (.int .u32 0)) ∧ Upd b7 w4 w' ∧ i ≤ 64) (fun i => 64 - i) 0 (by repeat (first | exact trivial | refine ⟨rfl, ?_⟩)) ⟨by simpa [sched] using hO7, Upd.refl _ _, by omega⟩ ?_
  rintro i w5 ⟨hO7, hU, hi⟩
  have hsl := sched_len blk i
  (conv => whnf)
  refine CmpP.split (fun h => ?_) (fun h => ?_)
  · have hlt : i < 64 := by simp at h; omega
    (conv => whnf)
    refine CmpP.split (fun h => ?_) (fun h => ?_)
    · have h16 : i < 16 := by simp at h; omega
      (conv => whnf)
      refine GetP.arr Tryz.runUnderlying237 Tryz.sizeOf5 ?_
      (conv => whnf)
      have hv := (hO5.upd hU (by omega)).seqByte
      rw [hb] at hv
      refine CallP.does (word_ok _ blk i (by omega) (by omega) w5 hv) ?_
      rintro r w5 ⟨rfl, rfl⟩
      (conv => whnf)
      refine ReqP.mk ⟨by omega, by omega⟩ ?_
      (conv => whnf)
      refine DoP.st tfU32 rfl hO7 (by simp [hsl]; omega) rfl ?_
      intro w6 hO hU6
      (conv => whnf)
      refine NumP.to ((i + 1 : Nat) : Int) (by rw [wrap_i64]; omega) ?_
      (conv => whnf)
      refine ⟨i + 1, (by repeat (first | exact trivial | refine ⟨rfl, ?_⟩)), ⟨?_, hU.trans hU6, by omega⟩, by omega⟩
      have hO := hO.cast (set_words _ 64 i _ hsl hlt)
      simpa [sched, h16] using hO
    · have h16 : ¬ i < 16 := by simp at h; omega
      (conv => whnf)
      refine draw_still tyOk mixed (.q 0 (.q 1 (.q 2 (.q 3 (.q 4 (.q 5 (.q 6 (.q 7 (.q 8 (.q 9 (.done))))))))))) (by kernel_rfl) ?_
      intro w6 hB hs6
      have hO7 := hO7.ext hB
      have hU := hU.trans (Upd.of_ext hB)
      clear hB
      (conv => whnf)
      refine NumP.to ((i - 15 : Nat) : Int) (by rw [wrap_i64]; omega) ?_
      (conv => whnf)
      refine ReqP.mk ⟨by omega, by omega⟩ ?_
      (conv => whnf)
      refine GetP.ld tfU32 (by rw [hO7.cell]; exact get_words _ _ (i - 15) (by omega)) ?_
      (conv => whnf)
      refine NumP.to ((i - 2 : Nat) : Int) (by rw [wrap_i64]; omega) ?_
      (conv => whnf)
      refine ReqP.mk ⟨by omega, by omega⟩ ?_
      (conv => whnf)
      refine GetP.ld tfU32 (by rw [hO7.cell]; exact get_words _ _ (i - 2) (by omega)) ?_
      (conv => whnf)
      refine CallP.does (rot_ok _ 7 (by omega) (by omega) w6) ?_
      rintro r w6 ⟨rfl, rfl⟩
      (conv => whnf)
      refine CallP.does (rot_ok _ 18 (by omega) (by omega) w6) ?_
      rintro r w6 ⟨rfl, rfl⟩
      (conv => whnf)
      (refine ReqP.mk (by first | decide | omega | (constructor <;> omega)) ?_; (conv => whnf))
      refine CallP.does (rot_ok _ 17 (by omega) (by omega) w6) ?_
      rintro r w6 ⟨rfl, rfl⟩
      (conv => whnf)
      refine CallP.does (rot_ok _ 19 (by omega) (by omega) w6) ?_
      rintro r w6 ⟨rfl, rfl⟩
      (conv => whnf)
      (refine ReqP.mk (by first | decide | omega | (constructor <;> omega)) ?_; (conv => whnf))
      refine draw_still tyOk mixed (.q 0 (.q 1 (.q 2 (.q 3 (.q 4 (.q 5 (.q 6 (.q 7 (.q 8 (.q 9 (.q 10 (.q 11 (.q 12 (.q 13 (.q 14 (.e [(15, .done)])))))))))))))))) (by kernel_rfl) ?_
      intro w7 hB hs7
      have hO7 := hO7.ext hB
      have hU := hU.trans (Upd.of_ext hB)
      clear hB
      (conv => whnf)
      refine NumP.to ((i - 7 : Nat) : Int) (by rw [wrap_i64]; omega) ?_
      (conv => whnf)
      refine ReqP.mk ⟨by omega, by omega⟩ ?_
      (conv => whnf)
      refine GetP.ld tfU32 (by rw [hO7.cell]; exact get_words _ _ (i - 7) (by omega)) ?_
      (conv => whnf)
      (refine NumP.wrap ?_; (conv => whnf))
      (refine NumP.wrap ?_; (conv => whnf))
      refine NumP.to ((i - 16 : Nat) : Int) (by rw [wrap_i64]; omega) ?_
      (conv => whnf)
      refine ReqP.mk ⟨by omega, by omega⟩ ?_
      (conv => whnf)
      refine GetP.ld tfU32 (by rw [hO7.cell]; exact get_words _ _ (i - 16) (by omega)) ?_
      (conv => whnf)
      (refine NumP.wrap ?_; (conv => whnf))
      refine ReqP.mk ⟨by omega, by omega⟩ ?_
      (conv => whnf)
      refine DoP.st tfU32 rfl hO7 (by simp [hsl]; omega) rfl ?_
      intro w8 hO hU8
      (conv => whnf)
      (refine BarP.yes (by decide +kernel) ?_; (conv => whnf))
      refine NumP.to ((i + 1 : Nat) : Int) (by rw [wrap_i64]; omega) ?_
      (conv => whnf)
      refine ⟨i + 1, (by repeat (first | exact trivial | refine ⟨rfl, ?_⟩)), ⟨?_, hU.trans hU8, by omega⟩, by omega⟩
      have hO := hO.cast (set_words _ 64 i _ hsl hlt)
      simp only [sched, h16, if_false]
      exact hO
  · have hge : i = 64 := by simp at h; omega
    subst hge
    (conv => whnf)
    have hO7 : Own w5 b7 ((sched blk 64).map wV) := by simpa using hO7
    obtain ⟨m, hm⟩ : ∃ m, m = sched blk 64 := ⟨_, rfl⟩
    have hml : m.length = 64 := by rw [hm]; exact sched_len blk 64
    rw [← hm] at hO7
    have hO4 := hO4.upd hU (by omega)
    have hO6 := hO6.upd hU (by omega)
    have hE : Ext w w5 := below_upd hE hU (by omega) (by omega)
    have hs5 := hU.size
    clear hU hO5
    refine RunP.new (z := .agg (Array.replicate 8 (.int .u32 0))) Tryz.zeroValue276 ?_
    intro b8 w6 hb8 hO8 hE6
    have l8 := hO8.lt
    have s6 := hE6.size
    have hO4 := hO4.ext hE6
    have hO6 := hO6.ext hE6
    have hO7 := hO7.ext hE6
    have hE := hE.trans hE6
    clear hE6
    have hO8 : Own w6 b8 (List.replicate 8 (.int .u32 0)) := hO8
    (conv => whnf)
    refine loop_only tyOk (σ := Nat) (fun i => [(79, .int .i64 i), (0, .int .i64 wd), (4, pt b4), (6, pt b6), (7, pt b7), (13, pt b8)]) (fun i w' => Own w' b8 ((words8 st.1 i).map wV ++ List.replicate (8 - i) (.int .u32 0)) ∧ Upd b8 w6 w' ∧ i ≤ 8) (fun i => 8 - i) 0 (by repeat (first | exact trivial | refine ⟨rfl, ?_⟩)) ⟨by simpa [words8] using hO8, Upd.refl _ _, by omega⟩ ?_
    rintro i w5 ⟨hO8, hU, hi⟩
    have hsl := words8_len st.1 i
    (conv => whnf)
    refine CmpP.split (fun h => ?_) (fun h => ?_)
    · have hlt : i < 8 := by simp at h; omega
      (conv => whnf)
      refine GetP.arr Tryz.runUnderlying24 Tryz.sizeOf5 ?_
      (conv => whnf)
      have hv := (hO4.upd hU (by omega)).seqByte
      have h32 := st.2
      rw [h32] at hv
      refine CallP.does (word_ok _ st.1 i (by omega) (by omega) w5 hv) ?_
      rintro r w5 ⟨rfl, rfl⟩
      (conv => whnf)
      refine ReqP.mk ⟨by omega, by omega⟩ ?_
      (conv => whnf)
      refine DoP.st tfU32 rfl hO8 (by simp [hsl]; omega) rfl ?_
      intro w6 hO hU6
      (conv => whnf)
      refine NumP.to ((i + 1 : Nat) : Int) (by rw [wrap_i64]; omega) ?_
      (conv => whnf)
      refine ⟨i + 1, (by repeat (first | exact trivial | refine ⟨rfl, ?_⟩)), ⟨?_, hU.trans hU6, by omega⟩, by omega⟩
      have hO := hO.cast (set_words _ 8 i _ hsl hlt)
      simpa [words8] using hO
    · have hge : i = 8 := by simp at h; omega
      subst hge
      (conv => whnf)
      have hO8 : Own w5 b8 ((words8 st.1 8).map wV) := by simpa using hO8
      obtain ⟨s, hs⟩ : ∃ s, s = words8 st.1 8 := ⟨_, rfl⟩
      rw [← hs] at hO8 hsl
      have hO7 := hO7.upd hU (by omega)
      have hO6 := hO6.upd hU (by omega)
      have hE : Ext w w5 := below_upd hE hU (by omega) (by omega)
      have hs5 := hU.size
      clear hU hO4
      refine GetP.lds tfV (by simp [hsl]) hO8.cells ?_
      (conv => whnf)
      refine RunP.new (z := .agg (Array.replicate 8 (.int .u32 0))) Tryz.zeroValue276 ?_
      intro b9 w6 hb9 hO9 hE6
      have l9 := hO9.lt
      have s6 := hE6.size
      have hO6 := hO6.ext hE6
      have hO7 := hO7.ext hE6
      have hO8 := hO8.ext hE6
      have hE := hE.trans hE6
      clear hE6
      (conv => whnf)
      refine DoP.sts0 tfV hO9 (by simp [hsl]) (by rfl) (words_one _) ?_
      intro w7 hO9 hU
      (conv => whnf)
      have hO6 := hO6.upd hU (by omega)
      have hO7 := hO7.upd hU (by omega)
      have hO8 := hO8.upd hU (by omega)
      have hE : Ext w w7 := below_upd hE hU (by omega) (by omega)
      have s7 := hU.size
      clear hU
      refine loop_only tyOk (σ := Nat) (fun i => [(89, .int .i64 i), (0, .int .i64 wd), (6, pt b6), (7, pt b7), (13, pt b8), (15, pt b9)]) (fun i w' => GlobH w' ∧ Own w' b9 ((rounds m s i).map wV) ∧ Upd b9 w7 w' ∧ i ≤ 64) (fun i => 64 - i) 0 (by repeat (first | exact trivial | refine ⟨rfl, ?_⟩)) ⟨hg.ext hE, hO9, Upd.refl _ _, by omega⟩ ?_
      rintro i w8 ⟨hg8, hO9, hU, hi⟩
      have hrl := rounds_len m s hsl i
      (conv => whnf)
      refine CmpP.split (fun h => ?_) (fun h => ?_)
      · have hlt : i < 64 := by simp at h; omega
        obtain ⟨v, hv⟩ : ∃ v, v = rounds m s i := ⟨_, rfl⟩
        rw [← hv] at hO9 hrl
        (conv => whnf)
        refine draw_still tyOk mixed (.q 0 (.q 1 (.q 2 (.q 3 (.q 4 (.q 5 (.q 6 (.q 7 (.q 8 (.q 9 (.q 10 (.q 11 (.q 12 (.q 13 (.q 14 (.q 15 (.q 16 (.q 17 (.done))))))))))))))))))) (by kernel_rfl) ?_
        intro w10 hB hs10
        have hO9 := hO9.ext hB
        have hg8 := hg8.ext hB
        have hU := hU.trans (Upd.of_ext hB)
        clear hB
        (conv => whnf)
        (refine ReqP.mk (by first | decide | omega | (constructor <;> omega)) ?_; (conv => whnf))
        refine GetP.ld tfU32 (by rw [hO9.cell]; exact get_words1 _ 0 (by omega)) ?_
        (conv => whnf)
        (refine ReqP.mk (by first | decide | omega | (constructor <;> omega)) ?_; (conv => whnf))
        refine GetP.ld tfU32 (by rw [hO9.cell]; exact get_words1 _ 1 (by omega)) ?_
        (conv => whnf)
        (refine ReqP.mk (by first | decide | omega | (constructor <;> omega)) ?_; (conv => whnf))
        refine GetP.ld tfU32 (by rw [hO9.cell]; exact get_words1 _ 2 (by omega)) ?_
        (conv => whnf)
        (refine ReqP.mk (by first | decide | omega | (constructor <;> omega)) ?_; (conv => whnf))
        refine GetP.ld tfU32 (by rw [hO9.cell]; exact get_words1 _ 4 (by omega)) ?_
        (conv => whnf)
        (refine ReqP.mk (by first | decide | omega | (constructor <;> omega)) ?_; (conv => whnf))
        refine GetP.ld tfU32 (by rw [hO9.cell]; exact get_words1 _ 5 (by omega)) ?_
        (conv => whnf)
        (refine ReqP.mk (by first | decide | omega | (constructor <;> omega)) ?_; (conv => whnf))
        refine GetP.ld tfU32 (by rw [hO9.cell]; exact get_words1 _ 6 (by omega)) ?_
        (conv => whnf)
        refine draw_still tyOk mixed (.q 0 (.q 1 (.q 2 (.q 4 (.q 7 (.q 11 (.q 12 (.q 13 (.q 14 (.q 15 (.q 16 (.q 17 (.q 18 (.q 20 (.q 21 (.q 22 (.q 24 (.q 25 (.q 26 (.e [(3, .e [(5, .q 6 (.e [(8, .q 9 (.q 10 (.q 19 (.q 23 (.q 27 (.q 28 (.done)))))))]))])])))))))))))))))))))) (by kernel_rfl) ?_
        intro w10 hB hs10
        have hO9 := hO9.ext hB
        have hg8 := hg8.ext hB
        have hU := hU.trans (Upd.of_ext hB)
        have hO7 := hO7.upd hU (by omega)
        clear hB
        have hk : w10.cell? ⟨2, 0 + i * 1, none⟩ = some (.int .u32 (kL.getD i 0 : Nat)) := by
          rw [Nat.mul_one]
          exact hg8.k i _ (get_k i hlt)
        have hr1 : rounds m s (i + 1) = round1 v (kL.getD i 0 : Nat) (m.getD i 0) := by rw [hv]; rfl
        generalize kL.getD i 0 = kk at hk hr1
        (conv => whnf)
        (refine ReqP.mk (by first | decide | omega | (constructor <;> omega)) ?_; (conv => whnf))
        refine GetP.ld tfU32 (by rw [hO9.cell]; exact get_words1 _ 7 (by omega)) ?_
        (conv => whnf)
        refine ReqP.mk ⟨by omega, by omega⟩ ?_
        (conv => whnf)
        refine GetP.ld tfU32 hk ?_
        (conv => whnf)
        refine ReqP.mk ⟨by omega, by omega⟩ ?_
        (conv => whnf)
        refine GetP.ld tfU32 (by rw [hO7.cell]; exact get_words1 _ i (by omega)) ?_
        (conv => whnf)
        refine CallP.does (rot_ok' _ 6 (by omega) (by omega) w10) ?_
        rintro r w10 ⟨rfl, z6, hz6, rfl⟩
        (conv => whnf)
        (refine BarP.no (ReqP.mk rfl ?_); (conv => whnf))
        refine CallP.does (rot_ok' _ 11 (by omega) (by omega) w10) ?_
        rintro r w10 ⟨rfl, z11, hz11, rfl⟩
        (conv => whnf)
        (refine BarP.no (ReqP.mk rfl ?_); (conv => whnf))
        refine CallP.does (rot_ok' _ 25 (by omega) (by omega) w10) ?_
        rintro r w10 ⟨rfl, z25, hz25, rfl⟩
        (conv => whnf)
        (refine BarP.no (ReqP.mk rfl ?_); (conv => whnf))
        refine NumP.eq ?_
        intro q1 hq1
        (conv => whnf)
        refine NumP.eq ?_
        intro q2 hq2
        (conv => whnf)
        refine NumP.eq ?_
        intro q3 hq3
        (conv => whnf)
        refine NumP.eq ?_
        intro q4 hq4
        (conv => whnf)
        refine CallP.does (rot_ok' _ 2 (by omega) (by omega) w10) ?_
        rintro r w10 ⟨rfl, z2, hz2, rfl⟩
        (conv => whnf)
        refine CallP.does (rot_ok' _ 13 (by omega) (by omega) w10) ?_
        rintro r w10 ⟨rfl, z13, hz13, rfl⟩
        (conv => whnf)
        refine CallP.does (rot_ok' _ 22 (by omega) (by omega) w10) ?_
        rintro r w10 ⟨rfl, z22, hz22, rfl⟩
        (conv => whnf)
        refine NumP.eq ?_
        intro q5 hq5
        (conv => whnf)
        refine NumP.eq ?_
        intro q6 hq6
        (conv => whnf)
        (refine ReqP.mk (by first | decide | omega | (constructor <;> omega)) ?_; (conv => whnf))
        refine GetP.ld tfU32 (by rw [hO9.cell]; exact get_words1 _ 3 (by omega)) ?_
        (conv => whnf)
        refine NumP.eq ?_
        intro q7 hq7
        (conv => whnf)
        have hres : round1 v (kk : Nat) (m.getD i 0) = [q6, v.getD 0 0, v.getD 1 0, v.getD 2 0, q7, v.getD 4 0, v.getD 5 0, v.getD 6 0] := by
          rw [hq6, hq7, hq5, hq4, hq3, hq2, hq1, hz2, hz13, hz22, hz6, hz11, hz25]
          rfl
        rw [hres] at hr1
        refine GetP.build (cells := ([q6, v.getD 0 0, v.getD 1 0, v.getD 2 0, q7, v.getD 4 0, v.getD 5 0, v.getD 6 0].map wV).toArray) (by kernel_rfl) ?_
        (conv => whnf)
        refine DoP.sts0 tfV hO9 (by simp) (by simp [hrl]) (words_one _) ?_
        intro w11 hO9 hU11
        (conv => whnf)
        refine NumP.to ((i + 1 : Nat) : Int) (by rw [wrap_i64]; omega) ?_
        (conv => whnf)
        refine ⟨i + 1, (by repeat (first | exact trivial | refine ⟨rfl, ?_⟩)), ⟨?_, ?_, hU.trans hU11, by omega⟩, by omega⟩
        · have hsz := hg8.lt
          have hsu := hU.size
          exact hg8.below (hU11.below (B := b9) (Nat.le_refl _) (by omega)) (by omega)
        · rw [hr1]
          exact hO9
      · have hge : i = 64 := by simp at h; omega
        subst hge
        (conv => whnf)
        have hO6 := hO6.upd hU (by omega)
        have hO8 := hO8.upd hU (by omega)
        have hE : Ext w w8 := below_upd hE hU (by omega) (by omega)
        have s8 := hU.size
        obtain ⟨v, hv⟩ : ∃ v, v = rounds m s 64 := ⟨_, rfl⟩
        rw [← hv] at hO9 hrl
        clear hU hO7
        refine RunP.new (z := .agg (Array.replicate 32 (.int .u8 0))) Tryz.zeroValue24 ?_
        intro b10 w9 hb10 hO10 hE9
        have l10 := hO10.lt
        have s9 := hE9.size
        have hO6 := hO6.ext hE9
        have hO8 := hO8.ext hE9
        have hO9 := hO9.ext hE9
        have hE := hE.trans hE9
        clear hE9
        (conv => whnf)
        refine loop_only tyOk (σ := Nat) (fun i => [(167, .int .i64 i), (0, .int .i64 wd), (6, pt b6), (13, pt b8), (15, pt b9), (25, pt b10)]) (fun i w' => Own w' b10 ((outL s v i).map byteV ++ List.replicate (32 - 4 * i) (.int .u8 0)) ∧ Upd b10 w9 w' ∧ i ≤ 8) (fun i => 8 - i) 0 (by repeat (first | exact trivial | refine ⟨rfl, ?_⟩)) ⟨hO10, Upd.refl _ _, by omega⟩ ?_
        rintro i w10 ⟨hO10, hU, hi⟩
        have hol := outL_len s v i
        (conv => whnf)
        refine CmpP.split (fun h => ?_) (fun h => ?_)
        · have hlt : i < 8 := by simp at h; omega
          (conv => whnf)
          refine draw_ext tyOk mixed (.q 0 (.q 1 (.q 2 (.q 3 (.q 4 (.q 5 (.q 6 (.q 7 (.e [(8, .q 9 (.q 10 (.q 11 (.q 12 (.q 13 (.done))))))]))))))))) (by kernel_rfl) ?_
          intro w11 hB hs11
          have hO8 := (hO8.upd hU (by omega)).ext hB
          have hO9 := (hO9.upd hU (by omega)).ext hB
          have hO10 := hO10.ext hB
          have hU := hU.trans (Upd.of_ext hB)
          clear hB
          have l10 := hO10.lt
          (conv => whnf)
          (refine ReqP.mk (by first | decide | omega | (constructor <;> omega)) ?_; (conv => whnf))
          refine GetP.ldS tfU32 (fun w' hw' => cell_ext (by rw [hO8.cell]; exact get_words1 _ i (by omega)) hw') ?_
          (conv => whnf)
          (refine ReqP.mk (by first | decide | omega | (constructor <;> omega)) ?_; (conv => whnf))
          refine GetP.ldS tfU32 (fun w' hw' => cell_ext (by rw [hO9.cell]; exact get_words1 _ i (by omega)) hw') ?_
          (conv => whnf)
          refine NumP.eq ?_
          intro q1 hq1
          (conv => whnf)
          have hq0 : 0 ≤ q1 ∧ q1 < 4294967296 := by rw [hq1, wrap_u32]; omega
          refine NumP.to ((q1.toNat : Nat) : Int) (by rw [wrap_u64]; omega) ?_
          (conv => whnf)
          refine CallP.does (big_ok q1.toNat 4 (by omega) (by omega) w11) ?_
          rintro r w12 ⟨u, rfl, hu, hE12⟩
          (conv => whnf)
          (refine BarP.no ?_)
          refine ReqP.mk hE12 ?_
          (conv => whnf)
          refine NumP.to ((4 * i : Nat) : Int) (by rw [wrap_i64]; omega) ?_
          (conv => whnf)
          refine GetP.arrFrom Tryz.runUnderlying24 Tryz.sizeOf5 (by omega) ?_
          (conv => whnf)
          refine RunP.copyB Tryz.underlying25 (by kernel_rfl) (hO10.ext hE12) hu (by simp [bigL_len, hol]; split <;> omega) ?_
          intro w13 hO13 hU13
          (conv => whnf)
          refine NumP.to ((i + 1 : Nat) : Int) (by rw [wrap_i64]; omega) ?_
          (conv => whnf)
          refine ⟨i + 1, (by repeat (first | exact trivial | refine ⟨rfl, ?_⟩)), ⟨?_, (hU.trans (Upd.of_ext hE12)).trans hU13, by omega⟩, by omega⟩
          refine hO13.cast ?_
          rw [bigL_len, if_neg (by omega), show min 4 (32 - 4 * i) = 4 by omega, List.take_of_length_le (l := bigL q1.toNat 4) (by rw [bigL_len]; exact Nat.le_refl _), set_out _ _ _ hlt hol, outL, hq1]
          rfl
        · have hge : i = 8 := by simp at h; omega
          subst hge
          (conv => whnf)
          have hO10 : Own w10 b10 ((outL s v 8).map byteV) := by simpa using hO10
          have hO6 := hO6.upd hU (by omega)
          have hE : Ext w w10 := below_upd hE hU (by omega) (by omega)
          have s10 := hU.size
          refine GetP.lds tfHash (by simp [hol]) hO10.cells ?_
          (conv => whnf)
          refine CallP.does (cut_ok wd ⟨outL s v 8, outL_len s v 8⟩ w10) ?_
          rintro r w11 ⟨rfl, hE11⟩
          (conv => whnf)
          refine DoP.sts0 tfHash (hO6.ext hE11) (H.len _) (by rfl) (bytes_one _) ?_
          intro w12 hO12 hU12
          (conv => whnf)
          refine GetP.ress tfHash (H.len _) hO12.cells ?_
          (conv => whnf)
          have s11 := hE11.size
          refine ⟨?_, below_upd (hE.trans hE11) hU12 (by omega) (by omega)⟩
          exact congrArg H.val (compress_eq wd st blk hm hs hv).symm
end Go.Proofs.YtgeemplpgfiidaaGreatDoor.Mv
/- hash: the hasher. -/
namespace Go.Proofs.YtgeemplpgfiidaaGreatDoor.Mv
open Go Go.RowKit Go.Proofs

theorem tfHasher : TyF Tryz.prog 239 true 98 := ⟨Tryz.isAgg239, Tryz.sizeOf239⟩

/-- A hasher's cells. -/
def HS.cells (wd : Int) (s : HS) : List Value := intV wd :: (H.cells s.st ++ (s.rest.map byteV ++ [u64V s.n]))
theorem HS.len (wd : Int) (s : HS) (h : s.rest.length = 64) : (HS.cells wd s).length = 98 := by simp [HS.cells, H.len, h]
theorem HS.one (wd : Int) (s : HS) : ∀ u ∈ HS.cells wd s, u.oneCell' = true := by
  intro u hu
  simp only [HS.cells, List.mem_cons, List.mem_append, List.not_mem_nil, or_false] at hu
  rcases hu with rfl | hu | hu | rfl
  · rfl
  · exact bytes_one _ u hu
  · exact bytes_one _ u hu
  · rfl

theorem new_ok (wd : Int) (w : World) (hg : GlobH w) : Does Tryz.prog 99 [.int .i64 wd] w (fun v w' => ∃ b, v = pt b ∧ w.heap.size ≤ b ∧ Own w' b (HS.cells wd (hs0 wd)) ∧ Ext w w') := by
  (refine DoesX.of_vc tyOk Tryz.func99 rfl ⟨rfl, rfl⟩ rfl ?_; (conv => whnf))
  refine GetP.lds tfHash (cs := firstL.map byteV) rfl hg.first ?_
  (conv => whnf)
  refine CallP.does (cut_ok wd ⟨firstL, rfl⟩ w) ?_
  rintro r w1 ⟨rfl, hE⟩
  (conv => whnf)
  refine GetP.buildS (places := [(0, 1), (1, 32), (33, 64), (97, 1)]) (zs := HS.cells 0 ⟨⟨List.replicate 32 0, rfl⟩, List.replicate 64 0, 0⟩) (vals := [intV wd, H.val (cutH wd ⟨firstL, rfl⟩)]) (fun _ => by kernel_rfl) rfl (by simp [offs, H.val, intV, Value.cells, H.len]) (by simp [cellsOf, H.val, intV, Value.cells, H.len, HS.cells]) ?_
  have hcell : cellsOf [intV wd, H.val (cutH wd ⟨firstL, rfl⟩)] ++ (HS.cells 0 ⟨⟨List.replicate 32 0, rfl⟩, List.replicate 64 0, 0⟩).drop (cellsOf [intV wd, H.val (cutH wd ⟨firstL, rfl⟩)]).length = HS.cells wd (hs0 wd) := by
    have hl : (cellsOf [intV wd, H.val (cutH wd ⟨firstL, rfl⟩)]).length = 33 := by simp [cellsOf, H.val, intV, Value.cells, H.len]
    rw [hl]
    simp [cellsOf, H.val, intV, Value.cells, HS.cells, hs0]
    rfl
  rw [hcell]
  (conv => whnf)
  refine RunP.box ?_
  intro b w2 hb hO hE2
  (conv => whnf)
  exact ⟨b, rfl, Nat.le_trans hE.size hb, hO, hE.trans hE2⟩

/-! Write -/
theorem HS.cells_eq (wd : Int) (s : HS) : HS.cells wd s = (intV wd :: H.cells s.st) ++ s.rest.map byteV ++ [u64V s.n] := by simp [HS.cells]
theorem HS.get_n (wd : Int) (s : HS) (h : s.rest.length = 64) : (HS.cells wd s)[97]? = some (u64V s.n) := by
  rw [HS.cells_eq, List.getElem?_append_right (by simp [H.len, h])]
  simp [H.len, h]
theorem HS.set_n (wd : Int) (s : HS) (h : s.rest.length = 64) (n : Nat) : (HS.cells wd s).set 97 (u64V n) = HS.cells wd { s with n := n } := by
  rw [HS.cells_eq, HS.cells_eq, List.set_append_right _ _ (by simp [H.len, h])]
  simp [H.len, h]
theorem HS.set_st (wd : Int) (s : HS) (st : H) : (HS.cells wd s).take 1 ++ H.cells st ++ (HS.cells wd s).drop (1 + 32) = HS.cells wd { s with st := st } := by
  have h1 : (HS.cells wd s).take 1 = [intV wd] := rfl
  have h2 : (HS.cells wd s).drop (1 + 32) = s.rest.map byteV ++ [u64V s.n] := by
    show (H.cells s.st ++ (s.rest.map byteV ++ [u64V s.n])).drop 32 = _
    rw [List.drop_left' (H.len _)]
  rw [h1, h2]
  simp [HS.cells]
theorem HS.set_rest (wd : Int) (s : HS) (h : s.rest.length = 64) (x : List UInt8) (i : Nat) (hi : i + x.length ≤ 64) :
    (HS.cells wd s).take (33 + i) ++ x.map byteV ++ (HS.cells wd s).drop (33 + i + x.length) = HS.cells wd { s with rest := s.rest.take i ++ x ++ s.rest.drop (i + x.length) } := by
  have h33 : (intV wd :: H.cells s.st).length = 33 := by simp [H.len]
  have h1 : (HS.cells wd s).take (33 + i) = (intV wd :: H.cells s.st) ++ (s.rest.take i).map byteV := by
    rw [HS.cells_eq, List.append_assoc, List.take_append, h33, List.take_of_length_le (by omega), show 33 + i - 33 = i by omega, List.take_append_of_le_length (by simp [h]; omega), List.map_take]
  have h2 : (HS.cells wd s).drop (33 + i + x.length) = (s.rest.drop (i + x.length)).map byteV ++ [u64V s.n] := by
    rw [HS.cells_eq, List.append_assoc, List.drop_append, h33, List.drop_eq_nil_of_le (by omega), List.nil_append, show 33 + i + x.length - 33 = i + x.length by omega, List.drop_append_of_le_length (by simp [h]; omega), List.map_drop]
  rw [h1, h2, HS.cells_eq]
  simp
theorem HS.at_st (wd : Int) (s : HS) {w : World} {b : Nat} (h : Own w b (HS.cells wd s)) : CellsAt w b 1 (H.cells s.st) := by
  have := h.cells
  rw [show HS.cells wd s = [intV wd] ++ H.cells s.st ++ (s.rest.map byteV ++ [u64V s.n]) by simp [HS.cells]] at this
  simpa using this.mid
theorem HS.at_rest (wd : Int) (s : HS) {w : World} {b : Nat} (h : Own w b (HS.cells wd s)) : CellsAt w b 33 (s.rest.map byteV) := by
  have := h.cells
  rw [HS.cells_eq] at this
  have := this.mid
  simpa [H.len] using this

theorem write_ok (wd : Int) (s : HS) (b : Nat) (v : Value) (l : List UInt8) (w : World) (hg : GlobH w) (hb3 : 3 < b) (hO0 : Own w b (HS.cells wd s)) (hr : s.rest.length = 64) (hv : Seq codByte w v l) (hnb : ¬ inBlock v b) (hn : s.n + l.length < 9223372036854775808) :
    Does Tryz.prog 100 [pt b, v] w (fun _ w' => Own w' b (HS.cells wd (feed wd s l)) ∧ Upd b w w') := by
  (refine DoesX.of_vc tyOk Tryz.func100 rfl ⟨rfl, rfl⟩ rfl ?_; (conv => whnf))
  refine loop_only tyOk (σ := Nat × Value) (fun x => [(0, pt b), (1, x.2)]) (fun x w' => Own w' b (HS.cells wd (feed wd s (l.take x.1))) ∧ Seq codByte w' x.2 (l.drop x.1) ∧ (¬ inBlock x.2 b) ∧ Upd b w w' ∧ x.1 ≤ l.length) (fun x => l.length - x.1) (0, v)
    (by repeat (first | exact trivial | refine ⟨rfl, ?_⟩)) ⟨hO0, hv, hnb, Upd.refl _ _, by omega⟩ ?_
  rintro ⟨k, u⟩ w1 ⟨hO, hv, hnb, hU, hk⟩
  have hrk : (feed wd s (l.take k)).rest.length = 64 := by rw [feed_rest]; exact hr
  have hnk : (feed wd s (l.take k)).n = s.n + k := by rw [feed_n, List.length_take]; omega
  have hfd : ∀ m, feed wd s (l.take (k + m)) = feed wd (feed wd s (l.take k)) ((l.drop k).take m) := by
    intro m
    rw [List.take_add, feed_append]
  have hblt0 := hO0.lt
  have hall : k = l.length → feed wd s (l.take k) = feed wd s l := fun e => by rw [e, List.take_length]
  have hblt := hO.lt
  generalize feed wd s (l.take k) = sk at hO hrk hnk hfd hall
  simp only at hO hv hnb hk
  (conv => whnf)
  refine GetP.lenS Tryz.runUnderlying25 hv ?_
  (conv => whnf)
  refine CmpP.split (fun h => ?_) (fun h => ?_)
  · have hlt : k < l.length := by simp at h; omega
    have hi : sk.n % 64 < 64 := Nat.mod_lt _ (by omega)
    (conv => whnf)
    refine GetP.ld tfU64 (by rw [hO.cell]; exact HS.get_n wd sk hrk) ?_
    (conv => whnf)
    (refine ReqP.mk (by first | decide | omega | (constructor <;> omega)) ?_; (conv => whnf))
    refine NumP.to ((sk.n % 64 : Nat) : Int) (by rw [show ((sk.n : Int).tmod 64) = ((sk.n % 64 : Nat) : Int) from rfl, wrap_i64]; omega) ?_
    (conv => whnf)
    refine GetP.arrFromO Tryz.runUnderlying237 Tryz.sizeOf5 (by omega) ?_
    (conv => whnf)
    rw [if_neg (by omega), Nat.mul_one]
    obtain ⟨m, hm⟩ : ∃ m, m = min (l.drop k).length (64 - sk.n % 64) := ⟨_, rfl⟩
    have hm1 : 1 ≤ m ∧ sk.n % 64 + m ≤ 64 ∧ k + m ≤ l.length := by rw [List.length_drop] at hm; omega
    obtain ⟨x, hx⟩ : ∃ x, x = (l.drop k).take m := ⟨_, rfl⟩
    have hxl : x.length = m := by rw [hx, List.length_take]; omega
    refine RunP.copyB Tryz.underlying25 (by kernel_rfl) hO hv (by rw [HS.len wd sk hrk, ← hm]; omega) ?_
    intro w2 hO2 hU2
    rw [← hm, ← hx, ← hxl, show 0 + 33 = 33 from rfl, HS.set_rest wd sk hrk x (sk.n % 64) (by omega)] at hO2
    rw [← hm]
    (conv => whnf)
    refine GetP.subS (hv.upd hU2 hnb) Tryz.runUnderlying25 Tryz.sizeOf5 m (l.drop k).length (.inr ⟨_, rfl⟩) (.inl ⟨rfl, rfl⟩) (by rw [List.length_drop]; omega) (Nat.le_refl _) ?_
    intro u' hu' hub
    rw [List.take_length, List.drop_drop] at hu'
    have hnb' : ¬ inBlock u' b := fun h => hnb (hub b h)
    have hrk2 : (sk.rest.take (sk.n % 64) ++ x ++ sk.rest.drop (sk.n % 64 + x.length)).length = 64 := by simp [hrk, hxl]; omega
    have hchunk := feed_chunk wd sk x hrk (by omega) (by intro e; rw [e] at hxl; simp at hxl; omega)
    have hfd2 := hfd m
    rw [← hx, hchunk] at hfd2
    generalize sk.rest.take (sk.n % 64) ++ x ++ sk.rest.drop (sk.n % 64 + x.length) = rest2 at hO2 hrk2 hfd2
    (conv => whnf)
    refine GetP.ld tfU64 (by rw [hO2.cell]; exact HS.get_n wd _ hrk2) ?_
    (conv => whnf)
    refine NumP.to ((m : Nat) : Int) (by rw [wrap_u64]; omega) ?_
    (conv => whnf)
    refine NumP.to ((sk.n + m : Nat) : Int) (by rw [wrap_u64]; dsimp only; omega) ?_
    (conv => whnf)
    refine DoP.st tfU64 rfl hO2 (by rw [HS.len wd _ hrk2]; omega) rfl ?_
    intro w3 hO3 hU3
    have hO3 : Own w3 b (HS.cells wd { sk with rest := rest2, n := sk.n + m }) := hO3.cast (HS.set_n wd { sk with rest := rest2 } hrk2 (sk.n + m))
    have hv3 := (hu'.upd hU3 hnb')
    have hU03 := (hU.trans hU2).trans hU3
    (conv => whnf)
    refine GetP.ld tfU64 (by rw [hO3.cell]; exact HS.get_n wd _ hrk2) ?_
    (conv => whnf)
    (refine ReqP.mk (by first | decide | omega | (constructor <;> omega)) ?_; (conv => whnf))
    refine CmpP.split (fun h => ?_) (fun h => ?_)
    · have h0 : (sk.n + m) % 64 = 0 := by
        rw [show (((sk.n + m : Nat) : Int).tmod 64) = (((sk.n + m) % 64 : Nat) : Int) from rfl] at h
        simp at h
        omega
      (conv => whnf)
      refine draw_ext tyOk mixed (.q 0 (.q 1 (.q 2 (.q 3 (.q 4 (.q 5 (.q 6 (.q 7 (.q 8 (.q 9 (.q 10 (.q 11 (.q 12 (.e [(13, .q 14 (.q 15 (.e [(16, .done)])))])))))))))))))) (by kernel_rfl) ?_
      intro w4 hB hs4
      have hO4 := hO3.ext hB
      have hv4 := hv3.ext hB
      have hU04 := hU03.trans (Upd.of_ext hB)
      clear hB
      (conv => whnf)
      refine GetP.ldS tfInt (v := intV wd) (fun w' hw' => cell_ext (by rw [hO4.cell]; rfl) hw') ?_
      (conv => whnf)
      refine GetP.ldsS tfHash (H.len _) (fun w' hw' => (HS.at_st wd _ hO4).ext hw') ?_
      (conv => whnf)
      refine GetP.ldsS tfBlk (by simpa using hrk2) (fun w' hw' => (HS.at_rest wd _ hO4).ext hw') ?_
      (conv => whnf)
      have hg4 : GlobH w4 := hg.below (hU04.below (B := b) (Nat.le_refl _) (by omega)) hb3
      refine CallP.does (compress_ok wd sk.st rest2 hrk2 w4 hg4) ?_
      rintro r w5 ⟨rfl, hE5⟩
      (conv => whnf)
      (refine BarP.yes (by decide +kernel) ?_; (conv => whnf))
      refine DoP.sts tfHash (hO4.ext hE5) (H.len _) (by rw [HS.len wd _ hrk2]; omega) (bytes_one _) ?_
      intro w6 hO6 hU6
      (conv => whnf)
      (refine BarP.yes (by decide +kernel) ?_; (conv => whnf))
      have hU06 := (hU04.trans (Upd.of_ext hE5)).trans hU6
      refine ⟨(k + m, u'), (by repeat (first | exact trivial | refine ⟨rfl, ?_⟩)), ⟨?_, (hv4.ext hE5).upd hU6 hnb', hnb', hU06, by simp only; omega⟩, by simp only; omega⟩
      simp only [hfd2, hxl, h0, if_true]
      exact hO6.cast (HS.set_st wd { sk with rest := rest2, n := sk.n + m } _)
    · have h0 : ¬ (sk.n + m) % 64 = 0 := by
        rw [show (((sk.n + m : Nat) : Int).tmod 64) = (((sk.n + m) % 64 : Nat) : Int) from rfl] at h
        simp at h
        omega
      (conv => whnf)
      refine ⟨(k + m, u'), (by repeat (first | exact trivial | refine ⟨rfl, ?_⟩)), ⟨?_, hv3, hnb', hU03, by simp only; omega⟩, by simp only; omega⟩
      simp only [hfd2, hxl, h0, if_false]
      exact hO3
  · have hge : k = l.length := by simp at h; omega
    (conv => whnf)
    rw [hall hge] at hO
    exact ⟨hO, hU⟩

theorem clone_ok (wd : Int) (s : HS) (b : Nat) (w : World) (hO : Own w b (HS.cells wd s)) (hr : s.rest.length = 64) :
    Does Tryz.prog 145 [pt b] w (fun v w' => ∃ b', v = pt b' ∧ w.heap.size ≤ b' ∧ Own w' b' (HS.cells wd s) ∧ Ext w w') := by
  (refine DoesX.of_vc tyOk Tryz.func145 rfl ⟨rfl, rfl⟩ rfl ?_; (conv => whnf))
  refine GetP.lds tfHasher (HS.len wd s hr) hO.cells ?_
  (conv => whnf)
  refine RunP.new Tryz.zeroValue239 ?_
  intro b2 w2 hb2 hO2 hE2
  (conv => whnf)
  refine DoP.sts0 tfHasher hO2 (HS.len wd s hr) (by rfl) (HS.one wd s) ?_
  intro w3 hO3 hU3
  (conv => whnf)
  exact ⟨b2, rfl, hb2, hO3, below_upd hE2 hU3 hb2 hE2.size⟩

theorem elByte : ElF Tryz.prog 25 5 codByte 1 := ⟨Tryz.underlying25, ⟨Tryz.t5, .int .u8 0, by kernel_rfl, by kernel_rfl, by kernel_rfl, by kernel_rfl, by kernel_rfl⟩⟩

theorem tail_ok (n : Nat) (hn : n < 2305843009213693952) (w : World) :
    Does Tryz.prog 146 [.int .u64 n] w (fun v w' => Seq codByte w' v (tailL n) ∧ (∀ g, inBlock v g → w.heap.size ≤ g) ∧ Ext w w') := by
  (refine DoesX.of_vc tyOk Tryz.func146 rfl ⟨rfl, rfl⟩ rfl ?_; (conv => whnf))
  (refine ReqP.mk (by first | decide | omega | (constructor <;> omega)) ?_; (conv => whnf))
  refine NumP.to ((119 - n % 64 : Nat) : Int) (by rw [show ((n : Int).tmod 64) = ((n % 64 : Nat) : Int) from rfl, wrap_u64]; omega) ?_
  (conv => whnf)
  (refine ReqP.mk (by first | decide | omega | (constructor <;> omega)) ?_; (conv => whnf))
  refine NumP.to ((1 + (119 - n % 64) % 64 : Nat) : Int) (by rw [show (((119 - n % 64 : Nat) : Int).tmod 64) = (((119 - n % 64) % 64 : Nat) : Int) from rfl, wrap_u64]; omega) ?_
  (conv => whnf)
  obtain ⟨q, hq⟩ : ∃ q, q = (119 - n % 64) % 64 := ⟨_, rfl⟩
  have hq64 : q < 64 := by omega
  rw [← hq]
  refine RunP.make (z := .int .u8 0) (size := 1) (bytes := 1) Tryz.underlying25 ⟨Tryz.t5, by kernel_rfl, by kernel_rfl, by kernel_rfl, by kernel_rfl⟩ (by omega) (by simp only [maxLen]; omega) ?_
  intro b w1 hb hO hE hG
  have hG : Grow codByte 5 w.heap.size w1 (.slice (some ⟨b, 0, none⟩) (1 + q : Nat) (1 + q : Nat)) (List.replicate (1 + q) 0) := made_grow rfl rfl hG
  (conv => whnf)
  refine GetP.idxO (i := 0) Tryz.runUnderlying25 Tryz.sizeOf5 (by omega) ?_
  (conv => whnf)
  refine DoP.stG (i := 0) (a := (128 : UInt8)) tfU8 hG (by rw [List.length_replicate]; omega) rfl ?_
  intro w2 hG2 hU2
  (conv => whnf)
  refine NumP.to ((8 * n : Nat) : Int) (by rw [wrap_u64]; omega) ?_
  (conv => whnf)
  refine CallP.does (big_ok (8 * n) 8 (by omega) (by omega) w2) ?_
  rintro r w3 ⟨u, rfl, hu, hE3⟩
  (conv => whnf)
  have hs2 := hU2.size
  have hs1 := hE.size
  have hs3 := hE3.size
  refine RunP.append elByte (hG2.ext hE3) hu (by simp [bigL_len, maxLen]; omega) (by simp [bigL_len]; omega) (by omega) ?_
  intro v' w4 hG4 hgr
  (conv => whnf)
  refine ⟨?_, fun g hg => (hG4.block hg).1, ?_⟩
  · have := hG4.seq
    rw [show (List.replicate (1 + q) (0 : UInt8)).set 0 128 = 128 :: List.replicate q 0 by rw [Nat.add_comm, List.replicate_succ]; rfl] at this
    rw [tailL, ← hq]
    exact this
  · have h1 : Ext w w2 := below_upd hE hU2 hb hE.size
    exact Below.trans (h1.trans hE3) ((hG2.ext hE3).grown_below hgr (by omega))

theorem sumM_ok (wd : Int) (l : List UInt8) (b : Nat) (w : World) (hg : GlobH w) (hb3 : 3 < b) (hO : Own w b (HS.cells wd (feed wd (hs0 wd) l))) (hn : l.length < 1152921504606846976) :
    Does Tryz.prog 101 [pt b] w (fun v w' => v = H.val (hsum wd l) ∧ Ext w w') := by
  have hr : (feed wd (hs0 wd) l).rest.length = 64 := by rw [feed_rest]; rfl
  have hln : (feed wd (hs0 wd) l).n = l.length := by rw [feed_n]; exact Nat.zero_add _
  have hsum : hsum wd l = (feed wd (feed wd (hs0 wd) l) (tailL l.length)).st := rfl
  have htl : (tailL l.length).length ≤ 200 := by simp [tailL, bigL_len]; omega
  have hr2 : (feed wd (feed wd (hs0 wd) l) (tailL l.length)).rest.length = 64 := by rw [feed_rest]; exact hr
  generalize feed wd (hs0 wd) l = s at hO hr hln hsum hr2
  have hbl := hO.lt
  (refine DoesX.of_vc tyOk Tryz.func101 rfl ⟨rfl, rfl⟩ rfl ?_; (conv => whnf))
  refine RunP.new (z := .agg (Array.replicate 32 (.int .u8 0))) Tryz.zeroValue24 ?_
  intro b1 w1 hb1 hO1 hE1
  have hO := hO.ext hE1
  (conv => whnf)
  refine CallP.does (clone_ok wd s b w1 hO hr) ?_
  rintro r w2 ⟨b2, rfl, hb2, hO2, hE2⟩
  have s1 := hE1.size
  have s2 := hE2.size
  have hl1 := hO1.lt
  (conv => whnf)
  refine GetP.ld tfU64 (by rw [(hO.ext hE2).cell]; exact HS.get_n wd s hr) ?_
  (conv => whnf)
  rw [show u64V s.n = Value.int .u64 l.length by rw [hln]; rfl]
  refine CallP.does (tail_ok l.length (by omega) w2) ?_
  rintro v w3 ⟨hv, hvb, hE3⟩
  have s3 := hE3.size
  have hlt2 := hO2.lt
  (conv => whnf)
  refine CallP.does (write_ok wd s b2 v (tailL l.length) w3 (((hg.ext hE1).ext hE2).ext hE3) (by omega) (hO2.ext hE3) hr hv (fun h => by have := hvb b2 h; omega) (by omega)) ?_
  rintro r w4 ⟨hO4, hU4⟩
  (conv => whnf)
  refine GetP.lds tfHash (H.len _) (HS.at_st wd _ hO4) ?_
  (conv => whnf)
  refine DoP.sts0 tfHash (((hO1.ext hE2).ext hE3).upd hU4 (by omega)) (H.len _) (by rfl) (bytes_one _) ?_
  intro w5 hO5 hU5
  (conv => whnf)
  refine GetP.ress tfHash (H.len _) hO5.cells ?_
  (conv => whnf)
  have s4 := hU4.size
  refine ⟨by rw [hsum]; rfl, ?_⟩
  exact below_upd (below_upd ((hE1.trans hE2).trans hE3) hU4 (by omega) (by omega)) hU5 (by omega) (by omega)

/-! Sum over parts, Concat -/
def SV := { v : Value // v.oneCell' = true }
def codSV : Cod SV := { cells := fun v => [v.1], size := 1, pos := by decide, len := fun _ => rfl, one := by intro a u hu; simp at hu; subst hu; exact a.2 }
theorem SV.cells (v : SV) : v.1.cells = #[v.1] := by
  obtain ⟨v, h⟩ := v
  cases v <;> first | rfl | simp [Value.oneCell'] at h
/-- Slices of bytes, each with what it reads. -/
def Parts (w : World) (vs : List SV) (ls : List (List UInt8)) : Prop := vs.length = ls.length ∧ ∀ (i : Nat) (v : SV) (l : List UInt8), vs[i]? = some v → ls[i]? = some l → Seq codByte w v.1 l
theorem Parts.ext {w w' : World} {vs : List SV} {ls : List (List UInt8)} (h : Parts w vs ls) (e : Ext w w') : Parts w' vs ls := ⟨h.1, fun i v l hv hl => (h.2 i v l hv hl).ext e⟩
theorem Parts.below {B : Nat} {w w' : World} {vs : List SV} {ls : List (List UInt8)} (h : Parts w vs ls) (e : Below B w w') (hB : w.heap.size ≤ B) : Parts w' vs ls := ⟨h.1, fun i v l hv hl => (h.2 i v l hv hl).below e hB⟩

theorem tfBytes : TyF Tryz.prog 25 false 1 := ⟨Tryz.isAgg25, Tryz.sizeOf25⟩
theorem take_flatten {ls : List (List UInt8)} {i : Nat} (h : i < ls.length) : (ls.take (i + 1)).flatten = (ls.take i).flatten ++ ls[i] := by
  rw [List.take_succ_eq_append_getElem h, List.flatten_append]
  simp

theorem sum_ok (wd : Int) (v : Value) (vs : List SV) (ls : List (List UInt8)) (w : World) (hg : GlobH w) (hv : Seq codSV w v vs) (hp : Parts w vs ls) (hn : ls.flatten.length < 1152921504606846976) (hc : ls.length < 1152921504606846976) :
    Does Tryz.prog 49 [.int .i64 wd, v] w (fun r w' => r = H.val (hsum wd ls.flatten) ∧ Ext w w') := by
  (refine DoesX.of_vc tyOk Tryz.func49 rfl ⟨rfl, rfl⟩ rfl ?_; (conv => whnf))
  refine RunP.new (z := .agg (Array.replicate 32 (.int .u8 0))) Tryz.zeroValue24 ?_
  intro b1 w1 hb1 hO1 hE1
  have hl1 := hO1.lt
  have s1 := hE1.size
  (conv => whnf)
  refine CallP.does (new_ok wd w1 (hg.ext hE1)) ?_
  rintro r w2 ⟨b2, rfl, hb2, hO2, hE2⟩
  have hl2 := hO2.lt
  have s2 := hE2.size
  have hE := hE1.trans hE2
  have hO1 := hO1.ext hE2
  have hv0 := hv
  have hv := hv.ext hE
  have hg2 := hg.ext hE
  have hg3 := hg.lt
  (conv => whnf)
  refine GetP.lenS Tryz.runUnderlying176 hv ?_
  (conv => whnf)
  refine loop_only tyOk (σ := Nat) (fun i => [(12, .int .i64 i), (0, .int .i64 wd), (1, v), (10, v), (11, .int .i64 vs.length), (4, pt b1), (5, pt b2)]) (fun i w' => Own w' b2 (HS.cells wd (feed wd (hs0 wd) (ls.take i).flatten)) ∧ Upd b2 w2 w' ∧ i ≤ vs.length) (fun i => vs.length - i) 0
    (by repeat (first | exact trivial | refine ⟨rfl, ?_⟩)) ⟨hO2, Upd.refl _ _, by omega⟩ ?_
  rintro i w3 ⟨hO3, hU3, hi⟩
  have hr : (feed wd (hs0 wd) (ls.take i).flatten).rest.length = 64 := by rw [feed_rest]; rfl
  (conv => whnf)
  refine CmpP.split (fun h => ?_) (fun h => ?_)
  · have hlt : i < vs.length := by simp at h; omega
    (conv => whnf)
    have hB3 : Below w.heap.size w w3 := below_upd hE hU3 (by omega) hE.size
    have hv3 := hv0.below hB3 (Nat.le_refl _)
    refine GetP.idxS Tryz.runUnderlying176 Tryz.sizeOf25 hv3 (by omega) (by simpa using hlt) ?_
    intro eb eo hc
    have hil : i < ls.length := by rw [← hp.1]; exact hlt
    have hpart : Seq codByte w3 vs[i].1 ls[i] := (hp.2 i vs[i] ls[i] (List.getElem?_eq_getElem hlt) (List.getElem?_eq_getElem hil)).below hB3 (Nat.le_refl _)
    have hpart0 : Seq codByte w vs[i].1 ls[i] := (hp.2 i vs[i] ls[i] (List.getElem?_eq_getElem hlt) (List.getElem?_eq_getElem hil))
    (conv => whnf)
    refine GetP.ld (v := vs[i].1) tfBytes (by have := hc 0 vs[i].1 (by rfl); exact this) ?_
    (conv => whnf)
    have hfl : (ls.take i).flatten.length + ls[i].length ≤ ls.flatten.length := by
      have h1 : (ls.take (i + 1)).flatten.length ≤ ls.flatten.length := by
        conv => rhs; rw [← List.take_append_drop (i + 1) ls, List.flatten_append, List.length_append]
        omega
      rw [take_flatten hil, List.length_append] at h1
      exact h1
    refine CallP.does (write_ok wd _ b2 vs[i].1 ls[i] w3 (hg2.below (hU3.below (B := b2) (Nat.le_refl _) (by omega)) (by omega)) (by omega) hO3 hr hpart (fun h => by have := hpart0.lt h; omega) (by rw [feed_n]; show 0 + _ + _ < _; omega)) ?_
    rintro r w4 ⟨hO4, hU4⟩
    (conv => whnf)
    refine NumP.to ((i + 1 : Nat) : Int) (by rw [wrap_i64]; omega) ?_
    (conv => whnf)
    refine ⟨i + 1, (by repeat (first | exact trivial | refine ⟨rfl, ?_⟩)), ⟨?_, hU3.trans hU4, by omega⟩, by omega⟩
    rw [take_flatten hil, feed_append]
    exact hO4
  · have hge : i = vs.length := by simp at h; omega
    subst hge
    rw [hp.1, List.take_length] at hO3
    have s3 := hU3.size
    (conv => whnf)
    refine CallP.does (sumM_ok wd ls.flatten b2 w3 (hg2.below (hU3.below (B := b2) (Nat.le_refl _) (by omega)) (by omega)) (by omega) hO3 hn) ?_
    rintro r w4 ⟨rfl, hE4⟩
    have s4 := hE4.size
    (conv => whnf)
    refine DoP.sts0 tfHash ((hO1.upd hU3 (by omega)).ext hE4) (H.len _) (by rfl) (bytes_one _) ?_
    intro w5 hO5 hU5
    (conv => whnf)
    refine GetP.ress tfHash (H.len _) hO5.cells ?_
    (conv => whnf)
    refine ⟨rfl, ?_⟩
    exact below_upd ((below_upd hE hU3 (by omega) (by omega)).trans (Below.mono hE4 (by omega))) hU5 (by omega) (by omega)
end Go.Proofs.YtgeemplpgfiidaaGreatDoor.Mv
/- slices.Concat of bytes; the texts that are hashed; Node, Fold, Root. -/
namespace Go.Proofs.YtgeemplpgfiidaaGreatDoor.Mv
open Go Go.RowKit Go.Proofs

theorem flat_le {ls : List (List UInt8)} {i : Nat} (h : i < ls.length) : (ls.take i).flatten.length + ls[i].length ≤ ls.flatten.length := by
  have h1 : (ls.take (i + 1)).flatten.length ≤ ls.flatten.length := by
    conv => rhs; rw [← List.take_append_drop (i + 1) ls, List.flatten_append, List.length_append]
    omega
  rw [take_flatten h, List.length_append] at h1
  exact h1

theorem growB_ok (n : Nat) (hn : n < 1152921504606846976) (hb : n ≤ 140737488355328) (w : World) :
    Does Tryz.prog 152 [.slice none 0 0, .int .i64 n] w (fun v w' => Grow codByte 5 w.heap.size w' v [] ∧ Ext w w') := by
  (refine DoesX.of_vc tyOk Tryz.func152 rfl ⟨rfl, rfl⟩ rfl ?_; (conv => whnf))
  refine CmpP.no (by simp) ?_
  (conv => whnf)
  refine GetP.capS Tryz.runUnderlying25 ?_
  (conv => whnf)
  refine GetP.lenS Tryz.runUnderlying25 (Seq.nil codByte w) ?_
  (conv => whnf)
  refine NumP.to 0 (by rfl) ?_
  (conv => whnf)
  refine NumP.to ((n : Nat) : Int) (by rw [wrap_i64]; omega) ?_
  (conv => whnf)
  refine CmpP.split (fun h => ?_) (fun h => ?_)
  · have h0 : 0 < n := by simp at h; omega
    (conv => whnf)
    refine GetP.capS Tryz.runUnderlying25 ?_
    (conv => whnf)
    refine GetP.subS (Seq.nil codByte w) Tryz.runUnderlying25 Tryz.sizeOf5 0 0 (.inl ⟨rfl, rfl⟩) (.inr ⟨_, rfl⟩) (Nat.le_refl _) (Nat.le_refl _) ?_
    intro v hv hvb
    have hv0 : v = .slice none 0 0 := by
      rcases hv with ⟨h, _⟩ | ⟨b, o, cap, h, _⟩
      · exact h
      · obtain ⟨_, _, _, h⟩ := hvb b ⟨o, _, cap, h⟩
        cases h
    subst hv0
    (conv => whnf)
    refine RunP.appendZ elByte Tryz.underlying3 h0 (by simp only [maxLen]; omega) (by omega) ?_
    intro b cap w1 hb hc hG hE
    (conv => whnf)
    refine GetP.lenS Tryz.runUnderlying25 (Seq.nil codByte w1) ?_
    (conv => whnf)
    refine GetP.cutHi Tryz.runUnderlying25 Tryz.sizeOf5 (Nat.zero_le _) ?_
    (conv => whnf)
    exact ⟨hG, hE⟩
  · (conv => whnf)
    exact ⟨Grow.nil _ _ _ _, Ext.refl _⟩

theorem concat_ok (v : Value) (vs : List SV) (ls : List (List UInt8)) (w : World) (hv : Seq codSV w v vs) (hp : Parts w vs ls) (hn : ls.flatten.length < 70368744177664) (hc : ls.length < 1152921504606846976) :
    Does Tryz.prog 109 [v] w (fun r w' => Grow codByte 5 w.heap.size w' r ls.flatten ∧ Ext w w') := by
  (refine DoesX.of_vc tyOk Tryz.func109 rfl ⟨rfl, rfl⟩ rfl ?_; (conv => whnf))
  refine GetP.lenS Tryz.runUnderlying176 hv ?_
  (conv => whnf)
  refine loop_only tyOk (σ := Nat) (fun i => [(11, .int .i64 i), (3, .int .i64 (ls.take i).flatten.length), (0, v), (9, v), (10, .int .i64 vs.length)]) (fun i w' => w' = w ∧ i ≤ vs.length) (fun i => vs.length - i) 0
    (by repeat (first | exact trivial | refine ⟨rfl, ?_⟩)) ⟨rfl, by omega⟩ ?_
  rintro i w ⟨rfl, hi⟩
  (conv => whnf)
  refine CmpP.split (fun h => ?_) (fun h => ?_)
  · have hlt : i < vs.length := by simp at h; omega
    have hil : i < ls.length := by rw [← hp.1]; exact hlt
    have hfl := flat_le hil
    (conv => whnf)
    refine GetP.idxS Tryz.runUnderlying176 Tryz.sizeOf25 hv (by omega) (by simpa using hlt) ?_
    intro eb eo hc
    have hpart : Seq codByte w vs[i].1 ls[i] := (hp.2 i vs[i] ls[i] (List.getElem?_eq_getElem hlt) (List.getElem?_eq_getElem hil))
    (conv => whnf)
    refine GetP.ld (v := vs[i].1) tfBytes (by have := hc 0 vs[i].1 (by rfl); exact this) ?_
    (conv => whnf)
    refine GetP.lenS Tryz.runUnderlying25 hpart ?_
    (conv => whnf)
    refine NumP.to (((ls.take (i + 1)).flatten.length : Nat) : Int) (by rw [take_flatten hil, List.length_append, wrap_i64]; omega) ?_
    (conv => whnf)
    (refine CmpP.no (by first | decide | (simp; done) | (simp; omega)) ?_; (conv => whnf))
    refine NumP.to ((i + 1 : Nat) : Int) (by rw [wrap_i64]; omega) ?_
    (conv => whnf)
    exact ⟨i + 1, (by repeat (first | exact trivial | refine ⟨rfl, ?_⟩)), ⟨rfl, by omega⟩, by omega⟩
  · have hge : i = vs.length := by simp at h; omega
    subst hge
    rw [hp.1, List.take_length]
    (conv => whnf)
    refine CallP.does (growB_ok ls.flatten.length (by omega) (by omega) w) ?_
    rintro r w1 ⟨hG, hE⟩
    (conv => whnf)
    refine GetP.lenS Tryz.runUnderlying176 (hv.ext hE) ?_
    (conv => whnf)
    refine loop_only tyOk (σ := Nat × Value) (fun x => [(27, .int .i64 x.1), (6, x.2), (25, v), (26, .int .i64 vs.length)]) (fun x w' => Grow codByte 5 w.heap.size w' x.2 (ls.take x.1).flatten ∧ Below w.heap.size w w' ∧ x.1 ≤ vs.length) (fun x => vs.length - x.1) (0, r)
      (by repeat (first | exact trivial | refine ⟨rfl, ?_⟩)) ⟨hG, hE, by omega⟩ ?_
    rintro ⟨i, r⟩ w2 ⟨hG, hB, hi⟩
    simp only at hG hi
    (conv => whnf)
    refine CmpP.split (fun h => ?_) (fun h => ?_)
    · have hlt : i < vs.length := by simp at h; omega
      have hil : i < ls.length := by rw [← hp.1]; exact hlt
      have hfl := flat_le hil
      (conv => whnf)
      refine GetP.idxS Tryz.runUnderlying176 Tryz.sizeOf25 (hv.below hB (Nat.le_refl _)) (by omega) (by simpa using hlt) ?_
      intro eb eo hc
      have hpart : Seq codByte w2 vs[i].1 ls[i] := (hp.2 i vs[i] ls[i] (List.getElem?_eq_getElem hlt) (List.getElem?_eq_getElem hil)).below hB (Nat.le_refl _)
      (conv => whnf)
      refine GetP.ld (v := vs[i].1) tfBytes (by have := hc 0 vs[i].1 (by rfl); exact this) ?_
      (conv => whnf)
      have hs2 := hB.size
      refine RunP.append elByte hG hpart (by simp only [maxLen]; omega) (by omega) hs2 ?_
      intro r' w3 hG3 hgr
      (conv => whnf)
      refine NumP.to ((i + 1 : Nat) : Int) (by rw [wrap_i64]; omega) ?_
      (conv => whnf)
      refine ⟨(i + 1, r'), (by repeat (first | exact trivial | refine ⟨rfl, ?_⟩)), ⟨?_, hB.trans (hG.grown_below hgr hs2), by simp only; omega⟩, by simp only; omega⟩
      rw [take_flatten hil]
      exact hG3
    · have hge : i = vs.length := by simp at h; omega
      subst hge
      rw [hp.1, List.take_length] at hG
      (conv => whnf)
      exact ⟨hG, hB⟩

theorem nodeText_ok (l r : H) (w : World) : Does Tryz.prog 104 [H.val l, H.val r] w (fun v w' => Grow codByte 5 w.heap.size w' v (nodeT l r) ∧ Ext w w') := by
  (refine DoesX.of_vc tyOk Tryz.func104 rfl ⟨rfl, rfl⟩ rfl ?_; (conv => whnf))
  refine RunP.box ?_
  intro b2 w1 hb2 hO2 hE1
  (conv => whnf)
  refine RunP.box ?_
  intro b3 w2 hb3 hO3 hE2
  (conv => whnf)
  refine draw_ext tyOk mixed (.q 1 (.q 2 (.e [(0, .e [(3, .e [(4, .q 5 (.done))])])]))) (by kernel_rfl) ?_
  intro w3 hB hs3
  have hO2 : Own w3 b2 (l.1.map byteV) := (hO2.ext hE2).ext hB
  have hO3 : Own w3 b3 (r.1.map byteV) := hO3.ext hB
  have hE3 := (hE1.trans hE2).trans hB
  clear hE1 hE2 hB
  (conv => whnf)
  refine GetP.arr Tryz.runUnderlying24 Tryz.sizeOf5 ?_
  (conv => whnf)
  refine GetP.arr Tryz.runUnderlying24 Tryz.sizeOf5 ?_
  (conv => whnf)
  refine RunP.slice1 (C := codByte) (a := (1 : UInt8)) Tryz.runUnderlying25 Tryz.sizeOf5 Tryz.zeroValue5 rfl rfl (by decide) ?_
  intro b5 w4 hb5 hO5 hE4 hq5
  (conv => whnf)
  (refine BarP.no ?_)
  refine ReqP.mk hE4 ?_
  (conv => whnf)
  have q2 := (hO2.ext hE4).seqByte
  have q3 := (hO3.ext hE4).seqByte
  rw [l.2] at q2
  rw [r.2] at q3
  refine RunP.slice (C := codSV) (l := [⟨.slice (some ⟨b5, 0, none⟩) 1 1, rfl⟩, ⟨.slice (some ⟨b2, 0, none⟩) 32 32, rfl⟩, ⟨.slice (some ⟨b3, 0, none⟩) 32 32, rfl⟩]) (vals := [.slice (some ⟨b5, 0, none⟩) 1 1, .slice (some ⟨b2, 0, none⟩) 32 32, .slice (some ⟨b3, 0, none⟩) 32 32]) Tryz.runUnderlying176 Tryz.sizeOf25 Tryz.zeroValue25 rfl rfl rfl (show 3 * 1 ≤ 16777216 by decide) ?_
  intro b8 w5 hb8 hO8 hE5 hq8 _
  (conv => whnf)
  (refine BarP.yes (by decide +kernel) ?_; (conv => whnf))
  have hp : Parts w5 [⟨.slice (some ⟨b5, 0, none⟩) 1 1, rfl⟩, ⟨.slice (some ⟨b2, 0, none⟩) 32 32, rfl⟩, ⟨.slice (some ⟨b3, 0, none⟩) 32 32, rfl⟩] [[1], l.1, r.1] := by
    refine ⟨rfl, fun i v l hv hl => ?_⟩
    match i, hv, hl with
    | 0, hv, hl => cases hv; cases hl; exact hq5.ext hE5
    | 1, hv, hl => cases hv; cases hl; exact q2.ext hE5
    | 2, hv, hl => cases hv; cases hl; exact q3.ext hE5
    | _ + 3, hv, hl => cases hv
  have h1 := l.2
  have h2 := r.2
  refine CallP.does (concat_ok _ _ _ w5 hq8 hp (by simp [h1, h2]) (by simp)) ?_
  rintro v w6 ⟨hG, hE6⟩
  have e3 := hE3.size
  have e4 := hE4.size
  have e5 := hE5.size
  (conv => whnf)
  (refine BarP.no ?_)
  refine ReqP.mk ((hE4.trans hE5).trans hE6) ?_
  (conv => whnf)
  refine ⟨?_, ((hE3.trans hE4).trans hE5).trans hE6⟩
  have : ([[1], l.1, r.1] : List (List UInt8)).flatten = nodeT l r := by simp [nodeT]
  rw [← this]
  exact hG.mono (by omega)

theorem foldText_ok (l r : H) (w : World) : Does Tryz.prog 149 [H.val l, H.val r] w (fun v w' => Grow codByte 5 w.heap.size w' v (foldT l r) ∧ Ext w w') := by
  (refine DoesX.of_vc tyOk Tryz.func149 rfl ⟨rfl, rfl⟩ rfl ?_; (conv => whnf))
  refine RunP.box ?_
  intro b2 w1 hb2 hO2 hE1
  (conv => whnf)
  refine RunP.box ?_
  intro b3 w2 hb3 hO3 hE2
  (conv => whnf)
  refine draw_ext tyOk mixed (.q 1 (.q 2 (.e [(0, .e [(3, .e [(4, .q 5 (.done))])])]))) (by kernel_rfl) ?_
  intro w3 hB hs3
  have hO2 : Own w3 b2 (l.1.map byteV) := (hO2.ext hE2).ext hB
  have hO3 : Own w3 b3 (r.1.map byteV) := hO3.ext hB
  have hE3 := (hE1.trans hE2).trans hB
  clear hE1 hE2 hB
  (conv => whnf)
  refine GetP.arr Tryz.runUnderlying24 Tryz.sizeOf5 ?_
  (conv => whnf)
  refine GetP.arr Tryz.runUnderlying24 Tryz.sizeOf5 ?_
  (conv => whnf)
  refine RunP.slice1 (C := codByte) (a := (2 : UInt8)) Tryz.runUnderlying25 Tryz.sizeOf5 Tryz.zeroValue5 rfl rfl (by decide) ?_
  intro b5 w4 hb5 hO5 hE4 hq5
  (conv => whnf)
  (refine BarP.no ?_)
  refine ReqP.mk hE4 ?_
  (conv => whnf)
  have q2 := (hO2.ext hE4).seqByte
  have q3 := (hO3.ext hE4).seqByte
  rw [l.2] at q2
  rw [r.2] at q3
  refine RunP.slice (C := codSV) (l := [⟨.slice (some ⟨b5, 0, none⟩) 1 1, rfl⟩, ⟨.slice (some ⟨b2, 0, none⟩) 32 32, rfl⟩, ⟨.slice (some ⟨b3, 0, none⟩) 32 32, rfl⟩]) (vals := [.slice (some ⟨b5, 0, none⟩) 1 1, .slice (some ⟨b2, 0, none⟩) 32 32, .slice (some ⟨b3, 0, none⟩) 32 32]) Tryz.runUnderlying176 Tryz.sizeOf25 Tryz.zeroValue25 rfl rfl rfl (show 3 * 1 ≤ 16777216 by decide) ?_
  intro b8 w5 hb8 hO8 hE5 hq8 _
  (conv => whnf)
  (refine BarP.yes (by decide +kernel) ?_; (conv => whnf))
  have hp : Parts w5 [⟨.slice (some ⟨b5, 0, none⟩) 1 1, rfl⟩, ⟨.slice (some ⟨b2, 0, none⟩) 32 32, rfl⟩, ⟨.slice (some ⟨b3, 0, none⟩) 32 32, rfl⟩] [[2], l.1, r.1] := by
    refine ⟨rfl, fun i v l hv hl => ?_⟩
    match i, hv, hl with
    | 0, hv, hl => cases hv; cases hl; exact hq5.ext hE5
    | 1, hv, hl => cases hv; cases hl; exact q2.ext hE5
    | 2, hv, hl => cases hv; cases hl; exact q3.ext hE5
    | _ + 3, hv, hl => cases hv
  have h1 := l.2
  have h2 := r.2
  refine CallP.does (concat_ok _ _ _ w5 hq8 hp (by simp [h1, h2]) (by simp)) ?_
  rintro v w6 ⟨hG, hE6⟩
  have e3 := hE3.size
  have e4 := hE4.size
  have e5 := hE5.size
  (conv => whnf)
  (refine BarP.no ?_)
  refine ReqP.mk ((hE4.trans hE5).trans hE6) ?_
  (conv => whnf)
  refine ⟨?_, ((hE3.trans hE4).trans hE5).trans hE6⟩
  have : ([[2], l.1, r.1] : List (List UInt8)).flatten = foldT l r := by simp [foldT]
  rw [← this]
  exact hG.mono (by omega)

theorem node_ok (wd : Int) (l r : H) (w : World) (hg : GlobH w) : Does Tryz.prog 54 [.int .i64 wd, H.val l, H.val r] w (fun v w' => v = H.val (nodeH wd l r) ∧ Ext w w') := by
  (refine DoesX.of_vc tyOk Tryz.func54 rfl ⟨rfl, rfl⟩ rfl ?_; (conv => whnf))
  refine RunP.box ?_
  intro b2 w1 hb2 hO2 hE1
  (conv => whnf)
  refine RunP.box ?_
  intro b3 w2 hb3 hO3 hE2
  (conv => whnf)
  refine RunP.new (z := .agg (Array.replicate 32 (.int .u8 0))) Tryz.zeroValue24 ?_
  intro b6 w3 hb6 hO6 hE3
  have e1 := hE1.size
  have e2 := hE2.size
  have e3 := hE3.size
  have hE := (hE1.trans hE2).trans hE3
  have hl6 := hO6.lt
  (conv => whnf)
  refine GetP.lds tfHash (H.len l) ((hO2.ext hE2).ext hE3).cells ?_
  (conv => whnf)
  refine GetP.lds tfHash (H.len r) (hO3.ext hE3).cells ?_
  (conv => whnf)
  refine CallP.does (nodeText_ok l r w3) ?_
  rintro v w4 ⟨hG, hE4⟩
  have hv1 : v.oneCell' = true := by
    rcases hG.seq with ⟨rfl, _⟩ | ⟨b, o, cap, rfl, _⟩ <;> rfl
  have e4 := hE4.size
  (conv => whnf)
  refine RunP.slice1 (C := codSV) (a := ⟨v, hv1⟩) Tryz.runUnderlying176 Tryz.sizeOf25 Tryz.zeroValue25 rfl (by rw [SV.cells ⟨v, hv1⟩]; rfl) (by decide) ?_
  intro b5 w5 hb5 hO5 hE5 hq5
  have e5 := hE5.size
  (conv => whnf)
  have hp : Parts w5 [⟨v, hv1⟩] [nodeT l r] := by
    refine ⟨rfl, fun i v l hv hl => ?_⟩
    match i, hv, hl with
    | 0, hv, hl => cases hv; cases hl; exact hG.seq.ext hE5
    | _ + 1, hv, hl => cases hv
  have h1 := l.2
  have h2 := r.2
  refine CallP.does (sum_ok wd _ _ _ w5 (((hg.ext hE).ext hE4).ext hE5) hq5 hp (by simp [nodeT, h1, h2]) (by simp)) ?_
  rintro v w6 ⟨rfl, hE6⟩
  have e6 := hE6.size
  (conv => whnf)
  refine DoP.sts0 tfHash (((hO6.ext hE4).ext hE5).ext hE6) (H.len _) (by rfl) (bytes_one _) ?_
  intro w7 hO7 hU7
  (conv => whnf)
  refine GetP.ress tfHash (H.len _) hO7.cells ?_
  (conv => whnf)
  refine ⟨by simp [nodeH]; rfl, ?_⟩
  exact below_upd (((hE.trans hE4).trans hE5).trans hE6) hU7 (by omega) (by omega)

theorem fold_ok (wd : Int) (l r : H) (w : World) (hg : GlobH w) : Does Tryz.prog 106 [.int .i64 wd, H.val l, H.val r] w (fun v w' => v = H.val (foldH wd l r) ∧ Ext w w') := by
  (refine DoesX.of_vc tyOk Tryz.func106 rfl ⟨rfl, rfl⟩ rfl ?_; (conv => whnf))
  refine RunP.box ?_
  intro b2 w1 hb2 hO2 hE1
  (conv => whnf)
  refine RunP.box ?_
  intro b3 w2 hb3 hO3 hE2
  (conv => whnf)
  refine RunP.new (z := .agg (Array.replicate 32 (.int .u8 0))) Tryz.zeroValue24 ?_
  intro b6 w3 hb6 hO6 hE3
  have e1 := hE1.size
  have e2 := hE2.size
  have e3 := hE3.size
  have hE := (hE1.trans hE2).trans hE3
  have hl6 := hO6.lt
  (conv => whnf)
  refine GetP.lds tfHash (H.len l) ((hO2.ext hE2).ext hE3).cells ?_
  (conv => whnf)
  refine GetP.lds tfHash (H.len r) (hO3.ext hE3).cells ?_
  (conv => whnf)
  refine CallP.does (foldText_ok l r w3) ?_
  rintro v w4 ⟨hG, hE4⟩
  have hv1 : v.oneCell' = true := by
    rcases hG.seq with ⟨rfl, _⟩ | ⟨b, o, cap, rfl, _⟩ <;> rfl
  have e4 := hE4.size
  (conv => whnf)
  refine RunP.slice1 (C := codSV) (a := ⟨v, hv1⟩) Tryz.runUnderlying176 Tryz.sizeOf25 Tryz.zeroValue25 rfl (by rw [SV.cells ⟨v, hv1⟩]; rfl) (by decide) ?_
  intro b5 w5 hb5 hO5 hE5 hq5
  have e5 := hE5.size
  (conv => whnf)
  have hp : Parts w5 [⟨v, hv1⟩] [foldT l r] := by
    refine ⟨rfl, fun i v l hv hl => ?_⟩
    match i, hv, hl with
    | 0, hv, hl => cases hv; cases hl; exact hG.seq.ext hE5
    | _ + 1, hv, hl => cases hv
  have h1 := l.2
  have h2 := r.2
  refine CallP.does (sum_ok wd _ _ _ w5 (((hg.ext hE).ext hE4).ext hE5) hq5 hp (by simp [foldT, h1, h2]) (by simp)) ?_
  rintro v w6 ⟨rfl, hE6⟩
  have e6 := hE6.size
  (conv => whnf)
  refine DoP.sts0 tfHash (((hO6.ext hE4).ext hE5).ext hE6) (H.len _) (by rfl) (bytes_one _) ?_
  intro w7 hO7 hU7
  (conv => whnf)
  refine GetP.ress tfHash (H.len _) hO7.cells ?_
  (conv => whnf)
  refine ⟨by simp [foldH]; rfl, ?_⟩
  exact below_upd (((hE.trans hE4).trans hE5).trans hE6) hU7 (by omega) (by omega)

theorem rootText_ok (n : Nat) (a : H) (hn : n < 18446744073709551616) (w : World) : Does Tryz.prog 150 [.int .u64 n, H.val a] w (fun v w' => Grow codByte 5 w.heap.size w' v (rootT n a) ∧ Ext w w') := by
  (refine DoesX.of_vc tyOk Tryz.func150 rfl ⟨rfl, rfl⟩ rfl ?_; (conv => whnf))
  refine RunP.box ?_
  intro b3 w1 hb3 hO3 hE1
  (conv => whnf)
  refine CallP.does (big_ok n 8 (by omega) (by omega) w1) ?_
  rintro r w2 ⟨u, rfl, hu, hE2⟩
  have hu1 : u.oneCell' = true := by
    rcases hu with ⟨rfl, _⟩ | ⟨b, o, cap, rfl, _⟩ <;> rfl
  (conv => whnf)
  refine RunP.slice1 (C := codByte) (a := (3 : UInt8)) Tryz.runUnderlying25 Tryz.sizeOf5 Tryz.zeroValue5 rfl rfl (by decide) ?_
  intro b5 w3 hb5 hO5 hE3 hq5
  (conv => whnf)
  refine GetP.arr Tryz.runUnderlying24 Tryz.sizeOf5 ?_
  (conv => whnf)
  have hO3 : Own w1 b3 (a.1.map byteV) := hO3
  have q3 := ((hO3.ext hE2).ext hE3).seqByte
  rw [a.2] at q3
  refine RunP.slice (C := codSV) (l := [⟨.slice (some ⟨b5, 0, none⟩) 1 1, rfl⟩, ⟨u, hu1⟩, ⟨.slice (some ⟨b3, 0, none⟩) 32 32, rfl⟩]) (vals := [.slice (some ⟨b5, 0, none⟩) 1 1, u, .slice (some ⟨b3, 0, none⟩) 32 32]) Tryz.runUnderlying176 Tryz.sizeOf25 Tryz.zeroValue25 rfl rfl (by
    have := SV.cells ⟨u, hu1⟩
    simp only [List.map_cons, List.map_nil, this]
    rfl) (show 3 * 1 ≤ 16777216 by decide) ?_
  intro b8 w4 hb8 hO8 hE4 hq8 _
  (conv => whnf)
  have hp : Parts w4 [⟨.slice (some ⟨b5, 0, none⟩) 1 1, rfl⟩, ⟨u, hu1⟩, ⟨.slice (some ⟨b3, 0, none⟩) 32 32, rfl⟩] [[3], bigL n 8, a.1] := by
    refine ⟨rfl, fun i v l hv hl => ?_⟩
    match i, hv, hl with
    | 0, hv, hl => cases hv; cases hl; exact hq5.ext hE4
    | 1, hv, hl => cases hv; cases hl; exact (hu.ext hE3).ext hE4
    | 2, hv, hl => cases hv; cases hl; exact q3.ext hE4
    | _ + 3, hv, hl => cases hv
  have h1 := a.2
  refine CallP.does (concat_ok _ _ _ w4 hq8 hp (by simp [h1, bigL_len]) (by simp)) ?_
  rintro v w5 ⟨hG, hE5⟩
  have e1 := hE1.size
  have e2 := hE2.size
  have e3 := hE3.size
  have e4 := hE4.size
  (conv => whnf)
  refine ⟨?_, (((hE1.trans hE2).trans hE3).trans hE4).trans hE5⟩
  have : ([[3], bigL n 8, a.1] : List (List UInt8)).flatten = rootT n a := by simp [rootT]
  rw [← this]
  exact hG.mono (by omega)

theorem root_ok (wd : Int) (n : Nat) (r : H) (hn : n < 18446744073709551616) (w : World) (hg : GlobH w) : Does Tryz.prog 107 [.int .i64 wd, .int .u64 n, H.val r] w (fun v w' => v = H.val (rootH wd n r) ∧ Ext w w') := by
  (refine DoesX.of_vc tyOk Tryz.func107 rfl ⟨rfl, rfl⟩ rfl ?_; (conv => whnf))
  refine RunP.box ?_
  intro b3 w2 hb3 hO3 hE2
  (conv => whnf)
  refine RunP.new (z := .agg (Array.replicate 32 (.int .u8 0))) Tryz.zeroValue24 ?_
  intro b6 w3 hb6 hO6 hE3
  have e2 := hE2.size
  have e3 := hE3.size
  have hE := hE2.trans hE3
  have hl6 := hO6.lt
  (conv => whnf)
  refine GetP.lds tfHash (H.len r) (hO3.ext hE3).cells ?_
  (conv => whnf)
  refine CallP.does (rootText_ok n r hn w3) ?_
  rintro v w4 ⟨hG, hE4⟩
  have hv1 : v.oneCell' = true := by
    rcases hG.seq with ⟨rfl, _⟩ | ⟨b, o, cap, rfl, _⟩ <;> rfl
  have e4 := hE4.size
  (conv => whnf)
  refine RunP.slice1 (C := codSV) (a := ⟨v, hv1⟩) Tryz.runUnderlying176 Tryz.sizeOf25 Tryz.zeroValue25 rfl (by rw [SV.cells ⟨v, hv1⟩]; rfl) (by decide) ?_
  intro b5 w5 hb5 hO5 hE5 hq5
  have e5 := hE5.size
  (conv => whnf)
  have hp : Parts w5 [⟨v, hv1⟩] [rootT n r] := by
    refine ⟨rfl, fun i v l hv hl => ?_⟩
    match i, hv, hl with
    | 0, hv, hl => cases hv; cases hl; exact hG.seq.ext hE5
    | _ + 1, hv, hl => cases hv
  have h2 := r.2
  refine CallP.does (sum_ok wd _ _ _ w5 (((hg.ext hE).ext hE4).ext hE5) hq5 hp (by simp [rootT, bigL_len, h2]) (by simp)) ?_
  rintro v w6 ⟨rfl, hE6⟩
  have e6 := hE6.size
  (conv => whnf)
  refine DoP.sts0 tfHash (((hO6.ext hE4).ext hE5).ext hE6) (H.len _) (by rfl) (bytes_one _) ?_
  intro w7 hO7 hU7
  (conv => whnf)
  refine GetP.ress tfHash (H.len _) hO7.cells ?_
  (conv => whnf)
  refine ⟨by simp [rootH]; rfl, ?_⟩
  exact below_upd (((hE.trans hE4).trans hE5).trans hE6) hU7 (by omega) (by omega)
end Go.Proofs.YtgeemplpgfiidaaGreatDoor.Mv
