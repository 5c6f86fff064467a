/- The plain law of JudgeClashes, about the judge: heads, forks, links. No program in sight. -/
import Derived.Test.YtgeemplpgfiidaaGreatDoorLj
namespace Go.Proofs.YtgeemplpgfiidaaGreatDoor.Mv
open Go Go.RowKit Go.Proofs

/-- Two accepted prefixes of two roots: a clash is found. -/
def ForkLaw : Prop := ∀ (wd : Int) (m n : Nat) (a b r : H) (p q : List UInt8), m < n → prefixE wd m a n r p = 0 → prefixE wd m b n r q = 0 → a ≠ b →
  ∃ x y, (forkS wd m n p q).found = some (x, y) ∧ x ≠ y ∧ hsum wd x = hsum wd y ∧ x.length ≤ 1000 ∧ y.length ≤ 1000

section
variable (wd : Int) (m n : Nat) (a b r : H) (p q : List UInt8)
def cHeads : List Head := addH ⟨n, r⟩ (addH ⟨m, b⟩ (addH ⟨m, a⟩ []))
def cL1 : List (Link × List UInt8) := if prefixE wd m a n r p = 0 then [(⟨⟨m, a⟩, ⟨n, r⟩⟩, p)] else []
def cL2 : List (Link × List UInt8) := if prefixE wd m b n r q = 0 then addL ⟨⟨m, b⟩, ⟨n, r⟩⟩ q (cL1 wd m n a r p) else cL1 wd m n a r p
theorem cHeads_eq (hmn : m < n) : cHeads m n a b r = if a = b then [⟨m, a⟩, ⟨n, r⟩] else [⟨m, a⟩, ⟨m, b⟩, ⟨n, r⟩] := by
  have h1 : ∀ c : H, (⟨n, r⟩ : Head) ≠ ⟨m, c⟩ := fun c e => by have := congrArg Head.n e; simp at this; omega
  unfold cHeads
  by_cases hab : a = b
  · subst hab
    simp [addH, h1]
  · have : (⟨m, b⟩ : Head) ≠ ⟨m, a⟩ := fun e => hab (congrArg Head.h e).symm
    simp [addH, h1, hab, Ne.symm hab]
theorem cHeads_mem (hmn : m < n) : (⟨m, a⟩ : Head) ∈ cHeads m n a b r ∧ (⟨m, b⟩ : Head) ∈ cHeads m n a b r ∧ (⟨n, r⟩ : Head) ∈ cHeads m n a b r ∧ (cHeads m n a b r).length ≤ 3 := by
  rw [cHeads_eq m n a b r hmn]
  by_cases hab : a = b
  · subst hab; simp
  · simp [hab]
theorem orderN {x y : Head} (h : x.n < y.n) : orderF x y < 0 := (order_k x y).1.2 (.inl h)

theorem forks_law (hmn : m < n) (l : List Head) (hp : l.Perm (cHeads m n a b r)) (hs : SortedF orderF l) : (forksF l).length = if a = b then 0 else 1 := by
  rw [cHeads_eq m n a b r hmn] at hp
  by_cases hab : a = b
  · rw [if_pos hab] at hp ⊢
    have hnm : ¬ n = m := by omega
    have hmn' : ¬ m = n := by omega
    rcases perm_two hp with rfl | rfl
    · simp [forksF, forksOf, hnm]
    · simp [forksF, forksOf, hmn']
  · rw [if_neg hab] at hp ⊢
    have hl : l.length = 3 := by simpa using hp.length_eq
    match l, hl with
    | [u, v, z], _ =>
      have hnd : [u, v, z].Nodup := by
        refine hp.nodup_iff.2 ?_
        have h1 : ∀ c : H, (⟨m, c⟩ : Head) ≠ ⟨n, r⟩ := fun c e => by have := congrArg Head.n e; simp at this; omega
        simp [h1, hab]
      have hmem : ∀ x, x ∈ [u, v, z] → x = ⟨m, a⟩ ∨ x = ⟨m, b⟩ ∨ x = ⟨n, r⟩ := fun x hx => by simpa using hp.mem_iff.1 hx
      have hz : (⟨n, r⟩ : Head) ∈ [u, v, z] := hp.mem_iff.2 (by simp)
      have hN : ∀ x : Head, (x = ⟨m, a⟩ ∨ x = ⟨m, b⟩ ∨ x = ⟨n, r⟩) → x ≠ ⟨n, r⟩ → x.n = m := fun x h hx => by
        rcases h with rfl | rfl | rfl
        · rfl
        · rfl
        · exact absurd rfl hx
      simp only [SortedF, List.pairwise_cons, List.mem_cons, List.not_mem_nil, or_false, forall_eq_or_imp, forall_eq] at hs
      simp only [List.nodup_cons, List.mem_cons, List.not_mem_nil, or_false, not_or] at hnd
      obtain ⟨⟨huv, huz⟩, hvz, _⟩ := hnd
      obtain ⟨⟨s1, s2⟩, s3, _⟩ := hs
      have hu := hmem u (by simp)
      have hv := hmem v (by simp)
      have hzm := hmem z (by simp)
      simp only [List.mem_cons, List.not_mem_nil, or_false] at hz
      have hu' : u ≠ ⟨n, r⟩ := fun e => by
        subst e
        exact s1 (orderN (by rw [hN v hv (Ne.symm huv)]; exact hmn))
      have hv' : v ≠ ⟨n, r⟩ := fun e => by
        subst e
        exact s3 (orderN (by rw [hN z hzm (Ne.symm hvz)]; exact hmn))
      have hz' : z = ⟨n, r⟩ := by
        rcases hz with h | h | h
        · exact absurd h.symm hu'
        · exact absurd h.symm hv'
        · exact h.symm
      subst hz'
      have e1 := hN u hu hu'
      have e2 := hN v hv hv'
      have hnm : ¬ n = m := by omega
      simp [forksF, forksOf, e1, e2, hnm]

theorem cL2_eq : cL2 wd m n a b r p q = if prefixE wd m a n r p = 0 then (if prefixE wd m b n r q = 0 ∧ a ≠ b then [(⟨⟨m, a⟩, ⟨n, r⟩⟩, p), (⟨⟨m, b⟩, ⟨n, r⟩⟩, q)] else [(⟨⟨m, a⟩, ⟨n, r⟩⟩, p)]) else if prefixE wd m b n r q = 0 then [(⟨⟨m, b⟩, ⟨n, r⟩⟩, q)] else [] := by
  unfold cL2 cL1
  by_cases h1 : prefixE wd m a n r p = 0
  · by_cases h2 : prefixE wd m b n r q = 0
    · by_cases hab : a = b
      · subst hab
        simp [h1, addL]
      · have : ¬ b = a := Ne.symm hab
        simp [h1, h2, hab, addL, setA, this]
    · simp [h1, h2]
  · by_cases h2 : prefixE wd m b n r q = 0
    · simp [h1, h2, addL, setA]
    · simp [h1, h2]
theorem cL2_ok : (cL2 wd m n a b r p q).length ≤ 2 ∧ ∀ z ∈ cL2 wd m n a b r p q, z.1.a.n = m ∧ z.1.b.n = n := by
  rw [cL2_eq]
  split
  · split
    · exact ⟨by simp, by intro z hz; simp at hz; rcases hz with rfl | rfl <;> simp⟩
    · exact ⟨by simp, by intro z hz; simp at hz; subst hz; simp⟩
  · split
    · exact ⟨by simp, by intro z hz; simp at hz; subst hz; simp⟩
    · exact ⟨by simp, by simp⟩

theorem leads_law (hmn : m < n) : LeadsTo ((cL2 wd m n a b r p q).map (·.1)) ⟨m, a⟩ ⟨n, r⟩ ↔ prefixE wd m a n r p = 0 ∨ (a = b ∧ prefixE wd m b n r q = 0) := by
  have hkey : (⟨⟨m, a⟩, ⟨n, r⟩⟩ : Link) ∈ (cL2 wd m n a b r p q).map (·.1) ↔ prefixE wd m a n r p = 0 ∨ (a = b ∧ prefixE wd m b n r q = 0) := by
    rw [cL2_eq]
    by_cases h1 : prefixE wd m a n r p = 0
    · rw [if_pos h1]
      simp only [h1, true_or, iff_true]
      split <;> simp
    · rw [if_neg h1]
      by_cases h2 : prefixE wd m b n r q = 0
      · by_cases hab : a = b
        · simp [h1, h2, hab]
        · simp [h1, h2, hab]
      · simp [h1, h2]
  rw [← hkey]
  have hall : ∀ x y : Head, (⟨x, y⟩ : Link) ∈ (cL2 wd m n a b r p q).map (·.1) → x.n = m ∧ y.n = n := fun x y h => by
    obtain ⟨z, hz, hze⟩ := List.mem_map.1 h
    have := (cL2_ok wd m n a b r p q).2 z hz
    rw [hze] at this
    exact this
  have hno : ∀ y, LeadsTo ((cL2 wd m n a b r p q).map (·.1)) ⟨m, a⟩ y → y.n = m → y = ⟨m, a⟩ := fun y h hy => by
    cases h with
    | refl => rfl
    | step h1 h2 => have := (hall _ _ h2).2; omega
  constructor
  · intro h
    generalize hz : (⟨n, r⟩ : Head) = z at h
    cases h with
    | refl => have := congrArg Head.n hz; simp at this; omega
    | step h1 h2 =>
      have := hno _ h1 (hall _ _ h2).1
      rw [this] at h2
      subst hz
      exact h2
  · intro h
    exact .step (.refl _) h

theorem clash_law (hF : ForkLaw) (hmn : m < n) (hs : List Head) (l : List Link) (hp : l.Perm ((cL2 wd m n a b r p q).map (·.1))) :
    clashQ wd ⟨hs, cL2 wd m n a b r p q⟩ l = (decide (prefixE wd m a n r p = 0) && (decide (prefixE wd m b n r q = 0) && !decide (a = b))) ∧
    (clashQ wd ⟨hs, cL2 wd m n a b r p q⟩ l = true → ∃ x y, clashT wd ⟨hs, cL2 wd m n a b r p q⟩ l = some (x, y) ∧ x ≠ y ∧ hsum wd x = hsum wd y ∧ x.length ≤ 1000 ∧ y.length ≤ 1000) := by
  by_cases h : prefixE wd m a n r p = 0 ∧ prefixE wd m b n r q = 0 ∧ a ≠ b
  · obtain ⟨h1, h2, hab⟩ := h
    have hL : cL2 wd m n a b r p q = [(⟨⟨m, a⟩, ⟨n, r⟩⟩, p), (⟨⟨m, b⟩, ⟨n, r⟩⟩, q)] := by rw [cL2_eq, if_pos h1, if_pos ⟨h2, hab⟩]
    rw [hL] at hp ⊢
    have hne : ¬ (⟨⟨m, b⟩, ⟨n, r⟩⟩ : Link) = ⟨⟨m, a⟩, ⟨n, r⟩⟩ := fun e => hab (congrArg (fun z => z.a.h) e).symm
    have t1 : textOf ⟨hs, [(⟨⟨m, a⟩, ⟨n, r⟩⟩, p), (⟨⟨m, b⟩, ⟨n, r⟩⟩, q)]⟩ ⟨⟨m, a⟩, ⟨n, r⟩⟩ = p := by simp [textOf, getA]
    have t2 : textOf ⟨hs, [(⟨⟨m, a⟩, ⟨n, r⟩⟩, p), (⟨⟨m, b⟩, ⟨n, r⟩⟩, q)]⟩ ⟨⟨m, b⟩, ⟨n, r⟩⟩ = q := by simp only [textOf, getA, if_neg hne, if_true]; rfl
    have e1 : decide (prefixE wd m a n r p = 0) = true := decide_eq_true h1
    have e2 : decide (prefixE wd m b n r q = 0) = true := decide_eq_true h2
    have e3 : decide (a = b) = false := decide_eq_false hab
    rw [e1, e2, e3]
    rcases perm_two hp with rfl | rfl
    · have hc : clashP [(⟨⟨m, a⟩, ⟨n, r⟩⟩ : Link), ⟨⟨m, b⟩, ⟨n, r⟩⟩] = some (⟨⟨m, a⟩, ⟨n, r⟩⟩, ⟨⟨m, b⟩, ⟨n, r⟩⟩) := by simp [clashP]
      obtain ⟨x, y, f1, f2⟩ := hF wd m n a b r p q hmn h1 h2 hab
      have hT : clashT wd ⟨hs, [(⟨⟨m, a⟩, ⟨n, r⟩⟩, p), (⟨⟨m, b⟩, ⟨n, r⟩⟩, q)]⟩ [(⟨⟨m, a⟩, ⟨n, r⟩⟩ : Link), ⟨⟨m, b⟩, ⟨n, r⟩⟩] = some (x, y) := by
        unfold clashT; rw [show clashP _ = _ from hc]; simp only; rw [t1, t2]; exact f1
      refine ⟨?_, fun _ => ⟨x, y, hT, f2⟩⟩
      unfold clashQ
      rw [show clashP _ = _ from hc]
      simp only
      rw [t1, t2]
      simp [forkB, forkIs, f1, h1, h2, hab]
    · have hc : clashP [(⟨⟨m, b⟩, ⟨n, r⟩⟩ : Link), ⟨⟨m, a⟩, ⟨n, r⟩⟩] = some (⟨⟨m, b⟩, ⟨n, r⟩⟩, ⟨⟨m, a⟩, ⟨n, r⟩⟩) := by simp [clashP]
      obtain ⟨x, y, f1, f2⟩ := hF wd m n b a r q p hmn h2 h1 (Ne.symm hab)
      have hT : clashT wd ⟨hs, [(⟨⟨m, a⟩, ⟨n, r⟩⟩, p), (⟨⟨m, b⟩, ⟨n, r⟩⟩, q)]⟩ [(⟨⟨m, b⟩, ⟨n, r⟩⟩ : Link), ⟨⟨m, a⟩, ⟨n, r⟩⟩] = some (x, y) := by
        unfold clashT; rw [show clashP _ = _ from hc]; simp only; rw [t1, t2]; exact f1
      refine ⟨?_, fun _ => ⟨x, y, hT, f2⟩⟩
      unfold clashQ
      rw [show clashP _ = _ from hc]
      simp only
      rw [t1, t2]
      simp [forkB, forkIs, f1, h1, h2, Ne.symm hab]
  · have hl1 : (cL2 wd m n a b r p q).length ≤ 1 := by
      rw [cL2_eq]
      split
      · rename_i h1
        rw [if_neg (fun h2 => h ⟨h1, h2⟩)]
        simp
      · split <;> simp
    have hl : l.length ≤ 1 := by have := hp.length_eq; simp at this; omega
    have hc : clashP l = none := by
      match l, hl with
      | [], _ => rfl
      | [_], _ => rfl
    have hq : clashQ wd ⟨hs, cL2 wd m n a b r p q⟩ l = false := by unfold clashQ; rw [hc]
    rw [hq]
    refine ⟨?_, fun h => by cases h⟩
    symm
    rw [Bool.eq_false_iff]
    intro h'
    simp only [Bool.and_eq_true, decide_eq_true_eq, Bool.not_eq_true', decide_eq_false_iff_not] at h'
    exact h ⟨h'.1, h'.2.1, h'.2.2⟩
end
end Go.Proofs.YtgeemplpgfiidaaGreatDoor.Mv
/- massiflaw18.JudgeClashes: the walk. Printed by genCl2.py. -/
namespace Go.Proofs.YtgeemplpgfiidaaGreatDoor.Mv
open Go Go.RowKit Go.Proofs
set_option maxHeartbeats 4000000

theorem headBuilt (m : Nat) (a : H) : Tryz.prog.built 29 [(0, .int .u64 m), (1, H.val a)] = some (Head.cells ⟨m, a⟩).toArray := by
  have hb : ∀ parts, Tryz.prog.built 29 parts = Instr.fill (fun i => [(0, 1), (1, 32)].toArray[i]?) (Head.cells zeroHead).toArray parts := fun _ => by kernel_rfl
  have h := fill_all (fun i => [(0, 1), (1, 32)].toArray[i]?) [u64V m, H.val a] 0 0 (Head.cells zeroHead).toArray (by
    intro j v hj
    match j, hj with
    | 0, hj => cases hj; rfl
    | 1, hj =>
      cases hj
      simp [cellsOf, u64V, H.val, Value.cells, H.len]) (by simp [cellsOf, u64V, H.val, Value.cells, H.len, Head.len])
  rw [hb]
  rw [show [(0, Value.int .u64 m), (1, H.val a)] = idx 0 [u64V m, H.val a] from rfl, h]
  congr 1
  have e : cellsOf [u64V m, H.val a] = Head.cells ⟨m, a⟩ := by simp [cellsOf, u64V, H.val, Value.cells, Head.cells]
  simp [e, Head.len]
theorem addH_len2 (x y : Head) : (addH x (addH y [])).length < 4096 := by
  have h : ∀ (z : Head) (l : List Head), (addH z l).length ≤ l.length + 1 := fun z l => by unfold addH; split <;> simp
  have h1 := h x (addH y [])
  have h2 := h y []
  simp at h2
  omega

theorem judgeClashes_ok (hF : ForkLaw) (wd : Int) (m : Nat) (a b : H) (n : Nat) (r : H) (vp vq : Value) (p q : List UInt8) (hm : m < 18446744073709551616) (hn : n < 18446744073709551616) (w : World) (hg : Glob w) (hvp : Seq codByte w vp p) (hvq : Seq codByte w vq q) :
    Does Tryz.prog 3 [.int .i64 wd, .int .u64 m, H.val a, H.val b, .int .u64 n, H.val r, vp, vq] w (fun x w' => x = .bool true ∧ Ext w w') := by
  (refine DoesX.of_vc tyOk Tryz.func3 rfl ⟨rfl, rfl⟩ rfl ?_; (conv => whnf))
  refine RunP.box ?_
  intro b10 w1 hb10 hO10 hE1
  have hO10 : Own w1 b10 (H.cells a) := by simpa [H.val, Value.cells] using hO10
  (conv => whnf)
  refine RunP.box ?_
  intro b11 w2 hb11 hO11 hE2
  have hO11 : Own w2 b11 (H.cells b) := by simpa [H.val, Value.cells] using hO11
  have hO10 := hO10.ext hE2
  have hE2 := hE1.trans hE2
  (conv => whnf)
  refine RunP.box ?_
  intro b13 w3 hb13 hO13 hE3
  have hO13 : Own w3 b13 (H.cells r) := by simpa [H.val, Value.cells] using hO13
  have hO10 := hO10.ext hE3
  have hO11 := hO11.ext hE3
  have hE3 := hE2.trans hE3
  have hs3 := hE3.size
  (conv => whnf)
  refine GetP.lenS Tryz.runUnderlying25 (hvp.ext hE3) ?_
  (conv => whnf)
  refine CmpP.split (fun h => ?_) (fun h => ?_)
  · (conv => whnf)
    exact ⟨rfl, hE3⟩
  have hpl : p.length ≤ 10000 := by simp at h; omega
  (conv => whnf)
  refine GetP.lenS Tryz.runUnderlying25 (hvq.ext hE3) ?_
  (conv => whnf)
  refine CmpP.split (fun h => ?_) (fun h => ?_)
  · (conv => whnf)
    exact ⟨rfl, hE3⟩
  have hql : q.length ≤ 10000 := by simp at h; omega
  (conv => whnf)
  refine CmpP.split (fun h => ?_) (fun h => ?_)
  · (conv => whnf)
    exact ⟨rfl, hE3⟩
  have hm62 : m ≤ 4611686018427387904 := by simp at h; omega
  (conv => whnf)
  refine CmpP.split (fun h => ?_) (fun h => ?_)
  · (conv => whnf)
    exact ⟨rfl, hE3⟩
  have hn62 : n ≤ 4611686018427387904 := by simp at h; omega
  (conv => whnf)
  refine CmpP.split (fun h => ?_) (fun h => ?_)
  · (conv => whnf)
    exact ⟨rfl, hE3⟩
  have hmn : m < n := by simp at h; omega
  (conv => whnf)
  refine CallP.does (newJudge_ok wd w3) ?_
  rintro x w4 ⟨J, bh, bl, rfl, hJ0, hbh0, hbl0, hJl, hbhl, hbll, hne, hJ, hE4⟩
  obtain ⟨A, hJ⟩ : ∃ A : Nat → Prop, JudgeAt wd w4 J bh bl A ⟨[], []⟩ := ⟨_, hJ (fun x => x < w4.heap.size) hJl hbhl hbll (fun _ h => h)⟩
  have hl10 := hO10.lt
  have hl11 := hO11.lt
  have hl13 := hO13.lt
  have hO10 := hO10.ext hE4
  have hO11 := hO11.ext hE4
  have hO13 := hO13.ext hE4
  have hE4 := hE3.trans hE4
  (conv => whnf)
  refine ptr_eq Tryz.runUnderlying26 ?_
  (conv => whnf)
  (refine CmpP.no (by first | decide | (simp; done) | (simp; omega)) ?_; (conv => whnf))
  refine DrawP.cut3 (fun (b18 b19 b20 : Nat) => [(0, .int .i64 wd), (1, .int .u64 m), (4, .int .u64 n), (6, vp), (7, vq), (10, pt b10), (11, pt b11), (13, pt b13), (17, pt J), (18, pt b18), (19, pt b19), (20, pt b20)])
    (fun b18 b19 b20 w' => Own w' b18 (Head.cells ⟨m, a⟩) ∧ Own w' b19 (Head.cells ⟨m, b⟩) ∧ Own w' b20 (Head.cells ⟨n, r⟩) ∧ w4.heap.size ≤ b18 ∧ w4.heap.size ≤ b19 ∧ w4.heap.size ≤ b20 ∧ Ext w4 w') ?_ ?_
  · refine draw_ext tyOk mixed (.q 0 (.q 1 (.q 2 (.q 3 (.q 4 (.q 5 (.q 6 (.q 7 (.q 8 (.e [(9, .e [(10, .e [(11, .e [(12, .e [(13, .e [(14, .done)])])])]), (11, .e [(10, .e [(12, .e [(13, .e [(14, .done)])])])])]), (10, .e [(9, .e [(11, .e [(12, .e [(13, .e [(14, .done)])])])]), (11, .e [(9, .e [(12, .e [(13, .e [(14, .done)])])])])]), (11, .e [(9, .e [(10, .e [(12, .e [(13, .e [(14, .done)])])])]), (10, .e [(9, .e [(12, .e [(13, .e [(14, .done)])])])])])])))))))))) (by kernel_rfl) ?_
    intro w5 hE5 hs5
    (conv => whnf)
    refine GetP.ldsS tfHash (H.len a) (fun w' hw' => ((hO10.ext hE5).ext hw').cells) ?_
    (conv => whnf)
    refine GetP.build (cells := (Head.cells ⟨m, a⟩).toArray) (headBuilt m a) ?_
    (conv => whnf)
    refine GetP.ldsS tfHash (H.len b) (fun w' hw' => ((hO11.ext hE5).ext hw').cells) ?_
    (conv => whnf)
    refine GetP.build (cells := (Head.cells ⟨m, b⟩).toArray) (headBuilt m b) ?_
    (conv => whnf)
    refine GetP.ldsS tfHash (H.len r) (fun w' hw' => ((hO13.ext hE5).ext hw').cells) ?_
    (conv => whnf)
    refine GetP.build (cells := (Head.cells ⟨n, r⟩).toArray) (headBuilt n r) ?_
    (conv => whnf)
    refine ⟨?d1, ?d2, ?d3⟩
    case' d1 =>
      refine RunP.new (z := Head.val zeroHead) Tryz.zeroValue29 ?_
      intro b18 w6 hb18 hO18 hE6
      have hO18 : Own w6 b18 (Head.cells zeroHead) := by simpa [Head.val, Value.cells] using hO18
      have hl18 := hO18.lt
      (conv => whnf)
      (refine BarP.no ?_)
      refine ReqP.mk hE6 ?_
      (conv => whnf)
      refine ⟨?d1a, ?d1b⟩
      case' d1a =>
        refine RunP.new (z := Head.val zeroHead) Tryz.zeroValue29 ?_
        intro b19 w7 hb19 hO19 hE7
        have hO19 : Own w7 b19 (Head.cells zeroHead) := by simpa [Head.val, Value.cells] using hO19
        have hl19 := hO19.lt
        have hO18 := hO18.ext hE7
        have hne18_19 : b18 ≠ b19 := by omega
        have hb19 : w5.heap.size ≤ b19 := by have := hE6.size; omega
        have hE7 := hE6.trans hE7
        (conv => whnf)
        (refine BarP.no ?_)
        refine ReqP.mk hE7 ?_
        (conv => whnf)
        refine RunP.new (z := Head.val zeroHead) Tryz.zeroValue29 ?_
        intro b20 w8 hb20 hO20 hE8
        have hO20 : Own w8 b20 (Head.cells zeroHead) := by simpa [Head.val, Value.cells] using hO20
        have hl20 := hO20.lt
        have hO18 := hO18.ext hE8
        have hO19 := hO19.ext hE8
        have hne18_20 : b18 ≠ b20 := by omega
        have hne19_20 : b19 ≠ b20 := by omega
        have hb20 : w5.heap.size ≤ b20 := by have := hE7.size; omega
        have hE8 := hE7.trans hE8
        (conv => whnf)
        (refine BarP.no ?_)
        refine ReqP.mk hE8 ?_
        (conv => whnf)
      case' d1b =>
        refine RunP.new (z := Head.val zeroHead) Tryz.zeroValue29 ?_
        intro b20 w7 hb20 hO20 hE7
        have hO20 : Own w7 b20 (Head.cells zeroHead) := by simpa [Head.val, Value.cells] using hO20
        have hl20 := hO20.lt
        have hO18 := hO18.ext hE7
        have hne18_20 : b18 ≠ b20 := by omega
        have hb20 : w5.heap.size ≤ b20 := by have := hE6.size; omega
        have hE7 := hE6.trans hE7
        (conv => whnf)
        (refine BarP.no ?_)
        refine ReqP.mk hE7 ?_
        (conv => whnf)
        refine RunP.new (z := Head.val zeroHead) Tryz.zeroValue29 ?_
        intro b19 w8 hb19 hO19 hE8
        have hO19 : Own w8 b19 (Head.cells zeroHead) := by simpa [Head.val, Value.cells] using hO19
        have hl19 := hO19.lt
        have hO18 := hO18.ext hE8
        have hO20 := hO20.ext hE8
        have hne18_19 : b18 ≠ b19 := by omega
        have hne20_19 : b20 ≠ b19 := by omega
        have hb19 : w5.heap.size ≤ b19 := by have := hE7.size; omega
        have hE8 := hE7.trans hE8
        (conv => whnf)
        (refine BarP.no ?_)
        refine ReqP.mk hE8 ?_
        (conv => whnf)
    case' d2 =>
      refine RunP.new (z := Head.val zeroHead) Tryz.zeroValue29 ?_
      intro b19 w6 hb19 hO19 hE6
      have hO19 : Own w6 b19 (Head.cells zeroHead) := by simpa [Head.val, Value.cells] using hO19
      have hl19 := hO19.lt
      (conv => whnf)
      (refine BarP.no ?_)
      refine ReqP.mk hE6 ?_
      (conv => whnf)
      refine ⟨?d2a, ?d2b⟩
      case' d2a =>
        refine RunP.new (z := Head.val zeroHead) Tryz.zeroValue29 ?_
        intro b18 w7 hb18 hO18 hE7
        have hO18 : Own w7 b18 (Head.cells zeroHead) := by simpa [Head.val, Value.cells] using hO18
        have hl18 := hO18.lt
        have hO19 := hO19.ext hE7
        have hne19_18 : b19 ≠ b18 := by omega
        have hb18 : w5.heap.size ≤ b18 := by have := hE6.size; omega
        have hE7 := hE6.trans hE7
        (conv => whnf)
        (refine BarP.no ?_)
        refine ReqP.mk hE7 ?_
        (conv => whnf)
        refine RunP.new (z := Head.val zeroHead) Tryz.zeroValue29 ?_
        intro b20 w8 hb20 hO20 hE8
        have hO20 : Own w8 b20 (Head.cells zeroHead) := by simpa [Head.val, Value.cells] using hO20
        have hl20 := hO20.lt
        have hO19 := hO19.ext hE8
        have hO18 := hO18.ext hE8
        have hne19_20 : b19 ≠ b20 := by omega
        have hne18_20 : b18 ≠ b20 := by omega
        have hb20 : w5.heap.size ≤ b20 := by have := hE7.size; omega
        have hE8 := hE7.trans hE8
        (conv => whnf)
        (refine BarP.no ?_)
        refine ReqP.mk hE8 ?_
        (conv => whnf)
      case' d2b =>
        refine RunP.new (z := Head.val zeroHead) Tryz.zeroValue29 ?_
        intro b20 w7 hb20 hO20 hE7
        have hO20 : Own w7 b20 (Head.cells zeroHead) := by simpa [Head.val, Value.cells] using hO20
        have hl20 := hO20.lt
        have hO19 := hO19.ext hE7
        have hne19_20 : b19 ≠ b20 := by omega
        have hb20 : w5.heap.size ≤ b20 := by have := hE6.size; omega
        have hE7 := hE6.trans hE7
        (conv => whnf)
        (refine BarP.no ?_)
        refine ReqP.mk hE7 ?_
        (conv => whnf)
        refine RunP.new (z := Head.val zeroHead) Tryz.zeroValue29 ?_
        intro b18 w8 hb18 hO18 hE8
        have hO18 : Own w8 b18 (Head.cells zeroHead) := by simpa [Head.val, Value.cells] using hO18
        have hl18 := hO18.lt
        have hO19 := hO19.ext hE8
        have hO20 := hO20.ext hE8
        have hne19_18 : b19 ≠ b18 := by omega
        have hne20_18 : b20 ≠ b18 := by omega
        have hb18 : w5.heap.size ≤ b18 := by have := hE7.size; omega
        have hE8 := hE7.trans hE8
        (conv => whnf)
        (refine BarP.no ?_)
        refine ReqP.mk hE8 ?_
        (conv => whnf)
    case' d3 =>
      refine RunP.new (z := Head.val zeroHead) Tryz.zeroValue29 ?_
      intro b20 w6 hb20 hO20 hE6
      have hO20 : Own w6 b20 (Head.cells zeroHead) := by simpa [Head.val, Value.cells] using hO20
      have hl20 := hO20.lt
      (conv => whnf)
      (refine BarP.no ?_)
      refine ReqP.mk hE6 ?_
      (conv => whnf)
      refine ⟨?d3a, ?d3b⟩
      case' d3a =>
        refine RunP.new (z := Head.val zeroHead) Tryz.zeroValue29 ?_
        intro b18 w7 hb18 hO18 hE7
        have hO18 : Own w7 b18 (Head.cells zeroHead) := by simpa [Head.val, Value.cells] using hO18
        have hl18 := hO18.lt
        have hO20 := hO20.ext hE7
        have hne20_18 : b20 ≠ b18 := by omega
        have hb18 : w5.heap.size ≤ b18 := by have := hE6.size; omega
        have hE7 := hE6.trans hE7
        (conv => whnf)
        (refine BarP.no ?_)
        refine ReqP.mk hE7 ?_
        (conv => whnf)
        refine RunP.new (z := Head.val zeroHead) Tryz.zeroValue29 ?_
        intro b19 w8 hb19 hO19 hE8
        have hO19 : Own w8 b19 (Head.cells zeroHead) := by simpa [Head.val, Value.cells] using hO19
        have hl19 := hO19.lt
        have hO20 := hO20.ext hE8
        have hO18 := hO18.ext hE8
        have hne20_19 : b20 ≠ b19 := by omega
        have hne18_19 : b18 ≠ b19 := by omega
        have hb19 : w5.heap.size ≤ b19 := by have := hE7.size; omega
        have hE8 := hE7.trans hE8
        (conv => whnf)
        (refine BarP.no ?_)
        refine ReqP.mk hE8 ?_
        (conv => whnf)
      case' d3b =>
        refine RunP.new (z := Head.val zeroHead) Tryz.zeroValue29 ?_
        intro b19 w7 hb19 hO19 hE7
        have hO19 : Own w7 b19 (Head.cells zeroHead) := by simpa [Head.val, Value.cells] using hO19
        have hl19 := hO19.lt
        have hO20 := hO20.ext hE7
        have hne20_19 : b20 ≠ b19 := by omega
        have hb19 : w5.heap.size ≤ b19 := by have := hE6.size; omega
        have hE7 := hE6.trans hE7
        (conv => whnf)
        (refine BarP.no ?_)
        refine ReqP.mk hE7 ?_
        (conv => whnf)
        refine RunP.new (z := Head.val zeroHead) Tryz.zeroValue29 ?_
        intro b18 w8 hb18 hO18 hE8
        have hO18 : Own w8 b18 (Head.cells zeroHead) := by simpa [Head.val, Value.cells] using hO18
        have hl18 := hO18.lt
        have hO20 := hO20.ext hE8
        have hO19 := hO19.ext hE8
        have hne20_18 : b20 ≠ b18 := by omega
        have hne19_18 : b19 ≠ b18 := by omega
        have hb18 : w5.heap.size ≤ b18 := by have := hE7.size; omega
        have hE8 := hE7.trans hE8
        (conv => whnf)
        (refine BarP.no ?_)
        refine ReqP.mk hE8 ?_
        (conv => whnf)
    all_goals
      refine DoP.sts0 tfHead hO18 (Head.len _) (Head.len _) (Head.one _) ?_
      intro w9 hO18 hU9
      have hO19 := hO19.upd hU9 (by omega)
      have hO20 := hO20.upd hU9 (by omega)
      have hE9 := hE8.upd hU9 hb18
      (conv => whnf)
      (refine BarP.no ?_)
      refine ReqP.mk hE9 ?_
      (conv => whnf)
      refine DoP.sts0 tfHead hO19 (Head.len _) (Head.len _) (Head.one _) ?_
      intro w10 hO19 hU10
      have hO18 := hO18.upd hU10 (by omega)
      have hO20 := hO20.upd hU10 (by omega)
      have hE10 := hE9.upd hU10 hb19
      (conv => whnf)
      (refine BarP.no ?_)
      refine ReqP.mk hE10 ?_
      (conv => whnf)
      refine DoP.sts0 tfHead hO20 (Head.len _) (Head.len _) (Head.one _) ?_
      intro w11 hO20 hU11
      have hO18 := hO18.upd hU11 (by omega)
      have hO19 := hO19.upd hU11 (by omega)
      have hE11 := hE10.upd hU11 hb20
      (conv => whnf)
      (refine BarP.no ?_)
      refine ReqP.mk hE11 ?_
      (conv => whnf)
      exact ⟨b18, b19, b20, (by repeat (first | exact trivial | refine ⟨rfl, ?_⟩)), hO18, hO19, hO20, by omega, by omega, by omega, Ext.trans hE5 hE11⟩
  rintro b18 b19 b20 w5 ⟨hO18, hO19, hO20, hb18, hb19, hb20, hE5⟩
  have hJ := hJ.ext hE5
  have hO10 := hO10.ext hE5
  have hO11 := hO11.ext hE5
  have hO13 := hO13.ext hE5
  have hE5 := hE4.trans hE5
  have hl18 := hO18.lt
  have hl19 := hO19.lt
  have hl20 := hO20.lt
  (conv => whnf)
  refine GetP.lds tfHead (Head.len ⟨m, a⟩) hO18.cells ?_
  (conv => whnf)
  refine CallP.does (see_ok wd J bh bl A ⟨[], []⟩ ⟨m, a⟩ w5 hJ hm62 (by decide)) ?_
  rintro x w6 ⟨rfl, hJ, hU6⟩
  have hJ : JudgeAt wd w6 J bh bl A ⟨addH ⟨m, a⟩ [], []⟩ := hJ
  have hs6 := hU6.size
  have hE6 := hE5.upd hU6 (by omega)
  have hO10 := hO10.upd hU6 (by omega)
  have hO11 := hO11.upd hU6 (by omega)
  have hO13 := hO13.upd hU6 (by omega)
  have hO18 := hO18.upd hU6 (by omega)
  have hO19 := hO19.upd hU6 (by omega)
  have hO20 := hO20.upd hU6 (by omega)
  (conv => whnf)
  (refine CmpP.no (by first | decide | (simp; done) | (simp; omega)) ?_; (conv => whnf))
  refine GetP.lds tfHead (Head.len ⟨m, b⟩) hO19.cells ?_
  (conv => whnf)
  refine CallP.does (see_ok wd J bh bl A ⟨addH ⟨m, a⟩ [], []⟩ ⟨m, b⟩ w6 hJ hm62 (by simp [addH])) ?_
  rintro x w7 ⟨rfl, hJ, hU7⟩
  have hJ : JudgeAt wd w7 J bh bl A ⟨addH ⟨m, b⟩ (addH ⟨m, a⟩ []), []⟩ := hJ
  have hs7 := hU7.size
  have hE7 := hE6.upd hU7 (by omega)
  have hO10 := hO10.upd hU7 (by omega)
  have hO11 := hO11.upd hU7 (by omega)
  have hO13 := hO13.upd hU7 (by omega)
  have hO18 := hO18.upd hU7 (by omega)
  have hO19 := hO19.upd hU7 (by omega)
  have hO20 := hO20.upd hU7 (by omega)
  (conv => whnf)
  (refine CmpP.no (by first | decide | (simp; done) | (simp; omega)) ?_; (conv => whnf))
  refine GetP.lds tfHead (Head.len ⟨n, r⟩) hO20.cells ?_
  (conv => whnf)
  refine CallP.does (see_ok wd J bh bl A ⟨addH ⟨m, b⟩ (addH ⟨m, a⟩ []), []⟩ ⟨n, r⟩ w7 hJ hn62 (addH_len2 _ _)) ?_
  rintro x w8 ⟨rfl, hJ, hU8⟩
  have hJ : JudgeAt wd w8 J bh bl A ⟨cHeads m n a b r, []⟩ := hJ
  have hs8 := hU8.size
  have hE8 := hE7.upd hU8 (by omega)
  have hO10 := hO10.upd hU8 (by omega)
  have hO11 := hO11.upd hU8 (by omega)
  have hO13 := hO13.upd hU8 (by omega)
  have hO18 := hO18.upd hU8 (by omega)
  have hO19 := hO19.upd hU8 (by omega)
  have hO20 := hO20.upd hU8 (by omega)
  obtain ⟨hma, hmb, hmr, hml⟩ := cHeads_mem m n a b r hmn
  (conv => whnf)
  (refine CmpP.no (by first | decide | (simp; done) | (simp; omega)) ?_; (conv => whnf))
  refine draw_ext tyOk mixed (.q 0 (.q 1 (.q 2 (.q 3 (.q 4 (.q 6 (.e [(5, .e [(7, .e [(8, .q 9 (.done))])])]))))))) (by kernel_rfl) ?_
  intro wa hEa hsa
  (conv => whnf)
  refine GetP.ldsS tfHash (H.len a) (fun w' hw' => ((hO10.ext hEa).ext hw').cells) ?_
  (conv => whnf)
  refine GetP.ldsS tfHash (H.len r) (fun w' hw' => ((hO13.ext hEa).ext hw').cells) ?_
  (conv => whnf)
  refine RunP.slice0 (C := codByte) Tryz.runUnderlying25 Tryz.sizeOf5 ?_
  intro bs wb hbs hGb hEb
  have hsb := hEb.size
  (conv => whnf)
  (refine BarP.no ?_)
  refine ReqP.mk hEb ?_
  (conv => whnf)
  refine RunP.append elByte hGb ((hvp.ext (hE8.trans hEa)).ext hEb) (by simp only [maxLen, List.length_nil]; omega) (by simp only [List.length_nil]; omega) (by omega) ?_
  intro vc wc hGc hgr
  have hEc : Ext wa wc := Below.trans hEb (hGb.grown_below hgr (by omega))
  (conv => whnf)
  (refine BarP.no ?_)
  refine ReqP.mk hEc ?_
  (conv => whnf)
  refine CallP.does (prefix_ok wd m a n r vc p hm hn wc (hg.ext ((hE8.trans hEa).trans hEc)) hGc.seq (by omega)) ?_
  rintro x w9 ⟨rfl, hE9⟩
  (conv => whnf)
  (refine BarP.no ?_)
  refine ReqP.mk (hEc.trans hE9) ?_
  (conv => whnf)
  have hEd := Ext.trans hEa (hEc.trans hE9)
  have hs9 := hEd.size
  have hJ := hJ.ext hEd
  have hO10 := hO10.ext hEd
  have hO11 := hO11.ext hEd
  have hO13 := hO13.ext hEd
  have hO18 := hO18.ext hEd
  have hO19 := hO19.ext hEd
  have hO20 := hO20.ext hEd
  have hE9 := hE8.trans hEd
  clear hEa hsa hEb hsb hGb hGc hgr hEc hEd
  refine draw_ext tyOk mixed (.q 0 (.q 1 (.q 2 (.q 3 (.q 4 (.q 6 (.e [(5, .e [(7, .e [(8, .q 9 (.done))])])]))))))) (by kernel_rfl) ?_
  intro wa hEa hsa
  (conv => whnf)
  refine GetP.ldsS tfHash (H.len b) (fun w' hw' => ((hO11.ext hEa).ext hw').cells) ?_
  (conv => whnf)
  refine GetP.ldsS tfHash (H.len r) (fun w' hw' => ((hO13.ext hEa).ext hw').cells) ?_
  (conv => whnf)
  refine RunP.slice0 (C := codByte) Tryz.runUnderlying25 Tryz.sizeOf5 ?_
  intro bs wb hbs hGb hEb
  have hsb := hEb.size
  (conv => whnf)
  (refine BarP.no ?_)
  refine ReqP.mk hEb ?_
  (conv => whnf)
  refine RunP.append elByte hGb ((hvq.ext (hE9.trans hEa)).ext hEb) (by simp only [maxLen, List.length_nil]; omega) (by simp only [List.length_nil]; omega) (by omega) ?_
  intro vc wc hGc hgr
  have hEc : Ext wa wc := Below.trans hEb (hGb.grown_below hgr (by omega))
  (conv => whnf)
  (refine BarP.no ?_)
  refine ReqP.mk hEc ?_
  (conv => whnf)
  refine CallP.does (prefix_ok wd m b n r vc q hm hn wc (hg.ext ((hE9.trans hEa).trans hEc)) hGc.seq (by omega)) ?_
  rintro x w10 ⟨rfl, hE10⟩
  (conv => whnf)
  (refine BarP.no ?_)
  refine ReqP.mk (hEc.trans hE10) ?_
  (conv => whnf)
  have hEd := Ext.trans hEa (hEc.trans hE10)
  have hs10 := hEd.size
  have hJ := hJ.ext hEd
  have hO10 := hO10.ext hEd
  have hO11 := hO11.ext hEd
  have hO13 := hO13.ext hEd
  have hO18 := hO18.ext hEd
  have hO19 := hO19.ext hEd
  have hO20 := hO20.ext hEd
  have hE10 := hE9.trans hEd
  clear hEa hsa hEb hsb hGb hGc hgr hEc hEd
  have hW11 : ∀ {w'}, Upd bl w10 w' → CellsAt w' b18 0 (Head.cells ⟨m, a⟩) ∧ CellsAt w' b19 0 (Head.cells ⟨m, b⟩) ∧ CellsAt w' b20 0 (Head.cells ⟨n, r⟩) := fun h => ⟨(hO18.upd h (by omega)).cells, (hO19.upd h (by omega)).cells, (hO20.upd h (by omega)).cells⟩
  refine draw_with tyOk mixed (.q 0 (.q 1 (.q 2 (.q 4 (.q 7 (.e [(3, .e [(5, .e [(6, .q 8 (.q 9 (.q 10 (.q 11 (.q 12 (.q 14 (.q 17 (.e [(13, .e [(15, .e [(16, .q 18 (.q 19 (.done)))])])]))))))))])])])))))) (by kernel_rfl) (fun w' => Upd bl w10 w') (fun _ h => .of_ext h) ?_
  intro w11 hE11 hs11
  (conv => whnf)
  refine GetP.ldsS tfHead (Head.len ⟨m, a⟩) (fun w' hw' => (hW11 hw').1) ?_
  (conv => whnf)
  refine GetP.ldsS tfHead (Head.len ⟨n, r⟩) (fun w' hw' => (hW11 hw').2.2) ?_
  (conv => whnf)
  refine RunP.slice0 (C := codByte) Tryz.runUnderlying25 Tryz.sizeOf5 ?_
  intro bs wb hbs hGb hEb
  have hsb := hEb.size
  (conv => whnf)
  (refine BarP.no ?_)
  refine ReqP.mk (.of_ext (hE11.trans hEb)) ?_
  (conv => whnf)
  refine RunP.append elByte hGb ((hvp.ext (hE10.trans hE11)).ext hEb) (by simp only [maxLen, List.length_nil]; omega) (by simp only [List.length_nil]; omega) (by omega) ?_
  intro vc wc hGc hgr
  have hEc : Ext w11 wc := Below.trans hEb (hGb.grown_below hgr (by omega))
  have hEc := hE11.trans hEc
  (conv => whnf)
  (refine BarP.no ?_)
  refine ReqP.mk (.of_ext hEc) ?_
  (conv => whnf)
  refine CallP.does (link_ok wd J bh bl A ⟨cHeads m n a b r, []⟩ ⟨m, a⟩ ⟨n, r⟩ vc p wc (hg.ext (hE10.trans hEc)) (hJ.ext hEc) hm hn hGc.seq (by omega) (by simp)) ?_
  rintro x w12 ⟨rfl, hJ, hU12⟩
  have hk1 : linkE wd ⟨cHeads m n a b r, []⟩ ⟨m, a⟩ ⟨n, r⟩ p = prefixE wd m a n r p := by unfold linkE; rw [if_pos ⟨hma, hmr⟩]
  rw [hk1] at hJ ⊢
  have hJ : JudgeAt wd w12 J bh bl A ⟨cHeads m n a b r, cL1 wd m n a r p⟩ := by
    unfold cL1
    by_cases h0 : prefixE wd m a n r p = 0
    · rw [if_pos (show ((prefixE wd m a n r p : Nat) : Int) = 0 by omega)] at hJ
      rw [if_pos h0]
      have : addL ⟨⟨m, a⟩, ⟨n, r⟩⟩ p [] = [((⟨⟨m, a⟩, ⟨n, r⟩⟩ : Link), p)] := by simp [addL, setA]
      simpa [this] using hJ
    · rw [if_neg (show ¬ ((prefixE wd m a n r p : Nat) : Int) = 0 by omega)] at hJ; rw [if_neg h0]; exact hJ
  have hs12 := hU12.size
  have hU12 : Upd bl w10 w12 := (Upd.of_ext hEc).trans hU12
  have hE12 := hE10.upd hU12 (by omega)
  (conv => whnf)
  (refine BarP.no ?_)
  refine ReqP.mk hU12 ?_
  (conv => whnf)
  (refine CmpP.no (by first | decide | (simp; done) | (simp; omega)) ?_; (conv => whnf))
  refine GetP.ldsS tfHead (Head.len ⟨m, b⟩) (fun w' hw' => (hW11 hw').2.1) ?_
  (conv => whnf)
  refine GetP.ldsS tfHead (Head.len ⟨n, r⟩) (fun w' hw' => (hW11 hw').2.2) ?_
  (conv => whnf)
  refine RunP.slice0 (C := codByte) Tryz.runUnderlying25 Tryz.sizeOf5 ?_
  intro bs2 wd2 hbs2 hGb2 hEb2
  have hsb2 := hEb2.size
  (conv => whnf)
  (refine BarP.no ?_)
  refine ReqP.mk (hU12.trans (.of_ext hEb2)) ?_
  (conv => whnf)
  refine RunP.append elByte hGb2 ((hvq.ext hE12).ext hEb2) (by simp only [maxLen, List.length_nil]; omega) (by simp only [List.length_nil]; omega) (by omega) ?_
  intro vd we hGc2 hgr2
  have hEe : Ext w12 we := Below.trans hEb2 (hGb2.grown_below hgr2 (by omega))
  (conv => whnf)
  (refine BarP.no ?_)
  refine ReqP.mk (hU12.trans (.of_ext hEe)) ?_
  (conv => whnf)
  have hL1 : (cL1 wd m n a r p).length < 4096 := by unfold cL1; split <;> simp
  refine CallP.does (link_ok wd J bh bl A ⟨cHeads m n a b r, cL1 wd m n a r p⟩ ⟨m, b⟩ ⟨n, r⟩ vd q we (hg.ext (hE12.trans hEe)) (hJ.ext hEe) hm hn hGc2.seq (by omega) hL1) ?_
  rintro x w13 ⟨rfl, hJ, hU13⟩
  have hk2 : linkE wd ⟨cHeads m n a b r, cL1 wd m n a r p⟩ ⟨m, b⟩ ⟨n, r⟩ q = prefixE wd m b n r q := by unfold linkE; rw [if_pos ⟨hmb, hmr⟩]
  rw [hk2] at hJ ⊢
  have hJ : JudgeAt wd w13 J bh bl A ⟨cHeads m n a b r, cL2 wd m n a b r p q⟩ := by
    unfold cL2
    by_cases h0 : prefixE wd m b n r q = 0
    · rw [if_pos (show ((prefixE wd m b n r q : Nat) : Int) = 0 by omega)] at hJ
      rw [if_pos h0]; exact hJ
    · rw [if_neg (show ¬ ((prefixE wd m b n r q : Nat) : Int) = 0 by omega)] at hJ; rw [if_neg h0]; exact hJ
  have hs13 := hU13.size
  have hU13 : Upd bl w10 w13 := hU12.trans ((Upd.of_ext hEe).trans hU13)
  have hE13 := hE10.upd hU13 (by omega)
  (conv => whnf)
  (refine BarP.no ?_)
  refine ReqP.mk hU13 ?_
  (conv => whnf)
  (refine CmpP.no (by first | decide | (simp; done) | (simp; omega)) ?_; (conv => whnf))
  have hs13 := hU13.size
  have hO10 := hO10.upd hU13 (by omega)
  have hO11 := hO11.upd hU13 (by omega)
  have hO18 := hO18.upd hU13 (by omega)
  have hO19 := hO19.upd hU13 (by omega)
  have hO20 := hO20.upd hU13 (by omega)
  obtain ⟨hL2, hL2s⟩ := cL2_ok wd m n a b r p q
  refine CallP.does (clash_ok wd J bh bl A ⟨cHeads m n a b r, cL2 wd m n a b r p q⟩ w13 (hg.ext hE13) hJ (show (cL2 wd m n a b r p q).length ≤ 12 by omega) (fun z hz => by have := hL2s z hz; omega)) ?_
  rintro x w14 ⟨l', hp, hs, ⟨va, vb, rfl, ga, gb, gt⟩, hE14⟩
  have hs14 := hE14.size
  obtain ⟨hcq, hct⟩ := clash_law wd m n a b r p q hF hmn (cHeads m n a b r) l' hp
  (conv => whnf)
  refine RunP.new (z := .agg #[.slice none 0 0, .slice none 0 0]) Tryz.zeroValue35 ?_
  intro b23 w15 hb23 hO23 hE15
  have hO23 : Own w15 b23 [.slice none 0 0, .slice none 0 0] := hO23
  (conv => whnf)
  refine DoP.sts0 tfClash (vs := [va, vb]) hO23 rfl rfl (by intro u hu; simp at hu; rcases hu with rfl | rfl <;> assumption) ?_
  intro w16 hO23 hU16
  have hE16 : Ext w14 w16 := hE15.upd hU16 hb23
  have gt : clashQ wd ⟨cHeads m n a b r, cL2 wd m n a b r p q⟩ l' = true → ∃ x y, Seq codByte w16 va x ∧ Seq codByte w16 vb y ∧ x ≠ y ∧ hsum wd x = hsum wd y ∧ x.length ≤ 1000 ∧ y.length ≤ 1000 := fun h => by
    obtain ⟨x, y, f1, f2⟩ := hct h
    obtain ⟨g1, g2⟩ := gt h
    rw [f1] at g1 g2
    exact ⟨x, y, g1.ext hE16, g2.ext hE16, f2⟩
  rw [hcq] at gt ⊢
  have hE16 := hE14.trans hE16
  have hJ := hJ.ext hE16
  have hO10 := hO10.ext hE16
  have hO11 := hO11.ext hE16
  have hO18 := hO18.ext hE16
  have hO19 := hO19.ext hE16
  have hO20 := hO20.ext hE16
  have hE16 := hE13.trans hE16
  generalize hone : prefixE wd m a n r p = one at hcq gt ⊢
  generalize htwo : prefixE wd m b n r q = two at hcq gt ⊢
  (conv => whnf)
  refine DrawP.cut (σ := Unit) (fun _ => [(0, .int .i64 wd), (10, pt b10), (11, pt b11), (17, pt J), (18, pt b18), (20, pt b20), (21, .int .i64 one), (22, .int .i64 two), (23, pt b23), (24, .bool (decide (one = 0) && (decide (two = 0) && !decide (a = b)))), (140, .bool false)])
    (fun _ w' => Ext w16 w') ?_ ?_
  · refine draw_ext tyOk mixed (.q 0 (.q 1 (.q 2 (.q 3 (.q 4 (.q 5 (.q 6 (.q 7 (.q 8 (.q 9 (.q 10 (.q 11 (.q 12 (.q 13 (.q 14 (.q 18 (.q 19 (.q 20 (.e [(15, .q 16 (.q 17 (.q 21 (.q 22 (.done)))))]))))))))))))))))))) (by kernel_rfl) ?_
    intro w17 hE17 hs17
    have hl10 : ∀ {w'}, Ext w17 w' → CellsAt w' b10 0 (H.cells a) := fun h => ((hO10.ext hE17).ext h).cells
    have hl11 : ∀ {w'}, Ext w17 w' → CellsAt w' b11 0 (H.cells b) := fun h => ((hO11.ext hE17).ext h).cells
    (conv => whnf)
    by_cases h1 : one = 0
    case' neg =>
      refine CmpP.of false (by simp [h1]) ?_
      (conv => whnf)
      have hc : (decide (one = 0) && (decide (two = 0) && !decide (a = b))) = false := by simp [h1]
    case' pos =>
      refine CmpP.of true (by simp [h1]) ?_
      (conv => whnf)
      by_cases h2 : two = 0
      case' neg =>
        refine CmpP.of false (by simp [h2]) ?_
        (conv => whnf)
        have hc : (decide (one = 0) && (decide (two = 0) && !decide (a = b))) = false := by simp [h2]
      case' pos =>
        refine CmpP.of true (by simp [h2]) ?_
        (conv => whnf)
        refine GetP.ldsS tfHash (H.len a) (fun w' hw' => hl10 hw') ?_
        (conv => whnf)
        refine GetP.ldsS tfHash (H.len b) (fun w' hw' => hl11 hw') ?_
        (conv => whnf)
        refine EqP.neq (val := H.val) (cs := H.cells) eqHash (by omega) Tryz.eqGuardType24 (fun _ => rfl) a b ?_
        refine CmpP.of (!decide (a = b)) rfl ?_
        (conv => whnf)
        have hc : (decide (one = 0) && (decide (two = 0) && !decide (a = b))) = (!decide (a = b)) := by simp [h1, h2]
    all_goals
      rw [hc]
      refine EqP.bool (.inr rfl) Tryz.underlying4 ?_
      refine CmpP.no (by simp) ?_
      (conv => whnf)
      refine GetP.ldsS tfHash (H.len a) (fun w' hw' => hl10 hw') ?_
      (conv => whnf)
      refine GetP.ldsS tfHash (H.len b) (fun w' hw' => hl11 hw') ?_
      (conv => whnf)
      refine EqP.neq (val := H.val) (cs := H.cells) eqHash (by omega) Tryz.eqGuardType24 (fun _ => rfl) a b ?_
      refine CmpP.of (!decide (a = b)) rfl ?_
      (conv => whnf)
      refine CallP.does (forks_ok wd J bh bl A ⟨cHeads m n a b r, cL2 wd m n a b r p q⟩ w17 (hJ.ext hE17) (show (cHeads m n a b r).length ≤ 12 by omega)) ?_
      rintro x w18 ⟨l2, hp2, hs2, hG18, hE18⟩
      have hfl := forks_law m n a b r hmn l2 hp2 hs2
      (conv => whnf)
      (refine BarP.no ?_)
      refine ReqP.mk hE18 ?_
      (conv => whnf)
      refine GetP.lenS Tryz.runUnderlying38 hG18.seq ?_
      (conv => whnf)
      rw [hfl]
      refine CmpP.of (!decide (a = b)) (by by_cases hab : a = b <;> simp [hab]) ?_
      (conv => whnf)
      refine EqP.bool (.inr rfl) Tryz.underlying4 ?_
      refine CmpP.no (by simp) ?_
      (conv => whnf)
      exact ⟨(), (by repeat (first | exact trivial | refine ⟨rfl, ?_⟩)), Ext.trans hE17 hE18⟩
  rintro _ w17 hE17
  have hJ := hJ.ext hE17
  have hO10 := hO10.ext hE17
  have hO11 := hO11.ext hE17
  have hO18 := hO18.ext hE17
  have hO20 := hO20.ext hE17
  have hO23 := hO23.ext hE17
  have gt : (decide (one = 0) && (decide (two = 0) && !decide (a = b))) = true → ∃ x y, Seq codByte w17 va x ∧ Seq codByte w17 vb y ∧ x ≠ y ∧ hsum wd x = hsum wd y ∧ x.length ≤ 1000 ∧ y.length ≤ 1000 := fun h => by
    obtain ⟨x, y, g1, g2, f2⟩ := gt h
    exact ⟨x, y, g1.ext hE17, g2.ext hE17, f2⟩
  have hE17 := hE16.trans hE17
  have hll := leads_law wd m n a b r p q hmn
  rw [hone, htwo] at hll
  have fin : ∀ w18, Ext w17 w18 → ∀ Z : Prop, True → True := fun _ _ _ _ => trivial
  generalize hcc : (decide (one = 0) && (decide (two = 0) && !decide (a = b))) = cq at gt
  cases cq
  case' false =>
    (conv => whnf)
    have hE18 : Ext w17 w17 := Ext.refl _
  case' true =>
    obtain ⟨x, y, g1, g2, f1, f2, f3, f4⟩ := gt rfl
    (conv => whnf)
    refine GetP.lds tfClash (cs := [va, vb]) rfl hO23.cells ?_
    (conv => whnf)
    refine CallP.does (holds_ok wd va vb x y w17 (hg.ext hE17).toGlobH g1 g2 f3 f4 f1 f2) ?_
    rintro _ w18 ⟨rfl, hE18⟩
    have hJ := hJ.ext hE18
    have hO10 := hO10.ext hE18
    have hO11 := hO11.ext hE18
    have hO18 := hO18.ext hE18
    have hO20 := hO20.ext hE18
    (conv => whnf)
  all_goals
    have hE18 := hE17.trans hE18
    refine GetP.lds tfHead (Head.len ⟨m, a⟩) hO18.cells ?_
    (conv => whnf)
    refine GetP.lds tfHead (Head.len ⟨n, r⟩) hO20.cells ?_
    (conv => whnf)
    refine CallP.does (leads_ok wd J bh bl A ⟨cHeads m n a b r, cL2 wd m n a b r p q⟩ ⟨m, a⟩ ⟨n, r⟩ _ hJ (show (cL2 wd m n a b r p q).length ≤ 4096 by omega)) ?_
    rintro _ w19 ⟨⟨B, rfl, hB⟩, hE19⟩
    have hB : B = decide (one = 0 ∨ (a = b ∧ two = 0)) := by
      rw [Bool.eq_iff_iff, hB, decide_eq_true_eq]
      constructor
      · rintro ⟨_, _, h⟩; exact hll.1 h
      · intro h; exact ⟨hma, hmr, hll.2 h⟩
    subst hB
    have hO10 := hO10.ext hE19
    have hO11 := hO11.ext hE19
    have hE19 := hE18.trans hE19
    (conv => whnf)
    have aw := awake_ok w19 (hg.ext hE19)
    by_cases h1 : one = 0
    · refine CmpP.of true (by simp [h1]) ?_
      (conv => whnf)
      refine EqP.bool (.inl rfl) Tryz.underlying4 ?_
      refine CmpP.yes (by simp [h1]) ?_
      (conv => whnf)
      refine CallP.does aw ?_
      rintro _ w20 ⟨rfl, hE20⟩
      (conv => whnf)
      exact ⟨rfl, hE19.trans hE20⟩
    · refine CmpP.of false (by simp [h1]) ?_
      (conv => whnf)
      refine GetP.lds tfHash (H.len a) hO10.cells ?_
      (conv => whnf)
      refine GetP.lds tfHash (H.len b) hO11.cells ?_
      (conv => whnf)
      refine EqP.eql (val := H.val) (cs := H.cells) eqHash (by omega) Tryz.eqGuardType24 (fun _ => rfl) a b ?_
      by_cases hab : a = b
      · refine CmpP.of true (by simp [hab]) ?_
        (conv => whnf)
        refine CmpP.of (decide (two = 0)) (by rw [Bool.eq_iff_iff]; simp) ?_
        (conv => whnf)
        refine EqP.bool (.inl rfl) Tryz.underlying4 ?_
        refine CmpP.yes (by simp [h1, hab]) ?_
        (conv => whnf)
        refine CallP.does aw ?_
        rintro _ w20 ⟨rfl, hE20⟩
        (conv => whnf)
        exact ⟨rfl, hE19.trans hE20⟩
      · refine CmpP.of false (by simp [hab]) ?_
        (conv => whnf)
        refine EqP.bool (.inl rfl) Tryz.underlying4 ?_
        refine CmpP.yes (by simp [h1, hab]) ?_
        (conv => whnf)
        refine CallP.does aw ?_
        rintro _ w20 ⟨rfl, hE20⟩
        (conv => whnf)
        exact ⟨rfl, hE19.trans hE20⟩
end Go.Proofs.YtgeemplpgfiidaaGreatDoor.Mv
