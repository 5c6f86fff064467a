/- The plain law of JudgeClashes: where no clash is found, the two proofs are one. No program in sight. -/
import Derived.Test.YtgeemplpgfiidaaGreatDoorLk
import Derived.Test.YtgeemplpgfiidaaGreatDoorLb
import Derived.ProofKit
import Derived.LaidMore
import Derived.OpenShut
namespace Go.Proofs.YtgeemplpgfiidaaGreatDoor.Mv
open Go Go.RowKit Go.Proofs

/-! ### The book -/
structure BInv (wd : Int) (S : BookS) : Prop where
  texts : ∀ h t, getA h S.texts = some t → hsum wd t = h ∧ t.length ≤ 1000
  found : ∀ x y, S.found = some (x, y) → x ≠ y ∧ hsum wd x = hsum wd y ∧ x.length ≤ 1000 ∧ y.length ≤ 1000
theorem addB_inv {wd : Int} {S : BookS} {t : List UInt8} (h : BInv wd S) (ht : t.length ≤ 1000) : BInv wd (addB wd S t) := by
  unfold addB
  cases hq : getA (hsum wd t) S.texts with
  | none =>
    refine ⟨fun k u hu => ?_, h.found⟩
    simp only at hu
    rw [getA_set] at hu
    split at hu
    · rename_i e
      cases hu
      exact ⟨e.symm, ht⟩
    · exact h.texts k u hu
  | some old =>
    simp only
    split
    · rename_i hc
      refine ⟨h.texts, fun x y hxy => ?_⟩
      simp only [Option.some.injEq, Prod.mk.injEq] at hxy
      obtain ⟨rfl, rfl⟩ := hxy
      have := h.texts _ _ hq
      exact ⟨hc.2, this.1, this.2, ht⟩
    · exact h
theorem addsB_inv {wd : Int} : ∀ (ts : List (List UInt8)) {S : BookS}, BInv wd S → (∀ t ∈ ts, t.length ≤ 1000) → BInv wd (addsB wd S ts)
  | [], _, h, _ => h
  | t :: r, S, h, hl => addsB_inv r (addB_inv h (hl t (by simp))) fun u hu => hl u (by simp [hu])
theorem addB_none {wd : Int} {S : BookS} {t : List UInt8} (h : (addB wd S t).found = none) : S.found = none ∧ getA (hsum wd t) (addB wd S t).texts = some t ∧ ∀ k u, getA k S.texts = some u → getA k (addB wd S t).texts = some u := by
  unfold addB at h ⊢
  cases hq : getA (hsum wd t) S.texts with
  | none =>
    rw [hq] at h
    refine ⟨h, ?_, fun k u hu => ?_⟩
    · simp only; rw [getA_set, if_pos rfl]
    · simp only
      rw [getA_set, if_neg]
      · exact hu
      · intro e
        subst e
        rw [hq] at hu
        cases hu
  | some old =>
    rw [hq] at h
    simp only at h ⊢
    split at h
    · cases h
    · rename_i hc
      rw [if_neg hc]
      have : old = t := by
        by_cases he : old = t
        · exact he
        · exact absurd ⟨h, he⟩ hc
      subst this
      exact ⟨h, hq, fun _ _ h => h⟩
theorem addsB_none {wd : Int} : ∀ (ts : List (List UInt8)) {S : BookS}, (addsB wd S ts).found = none → S.found = none ∧ (∀ t ∈ ts, getA (hsum wd t) (addsB wd S ts).texts = some t) ∧ ∀ k u, getA k S.texts = some u → getA k (addsB wd S ts).texts = some u
  | [], S, h => ⟨h, by simp, fun _ _ h => h⟩
  | t :: r, S, h => by
    obtain ⟨h1, h2, h3⟩ := addsB_none r (S := addB wd S t) h
    obtain ⟨g1, g2, g3⟩ := addB_none h1
    refine ⟨g1, fun u hu => ?_, fun k u hu => h3 k u (g3 k u hu)⟩
    rcases List.mem_cons.1 hu with rfl | hu
    · exact h3 _ _ g2
    · exact h2 u hu
theorem no_clash {wd : Int} {ts : List (List UInt8)} (h : (addsB wd ⟨[], none⟩ ts).found = none) : ∀ t ∈ ts, ∀ u ∈ ts, hsum wd t = hsum wd u → t = u := by
  obtain ⟨_, h2, _⟩ := addsB_none ts h
  intro t ht u hu he
  have h3 := h2 t ht
  have h4 := h2 u hu
  rw [he, h4] at h3
  exact (Option.some.inj h3).symm

/-! ### Texts that are alike -/
theorem nodeT_inj {a b c d : H} (h : nodeT a b = nodeT c d) : a = c ∧ b = d := by
  unfold nodeT at h
  have h := List.append_inj (List.cons.inj h).2 (by rw [a.2, c.2])
  exact ⟨Subtype.ext h.1, Subtype.ext h.2⟩
theorem foldT_inj {a b c d : H} (h : foldT a b = foldT c d) : a = c ∧ b = d := by
  unfold foldT at h
  have h := List.append_inj (List.cons.inj h).2 (by rw [a.2, c.2])
  exact ⟨Subtype.ext h.1, Subtype.ext h.2⟩
theorem rootT_inj {n : Nat} {a b : H} (h : rootT n a = rootT n b) : a = b := by
  unfold rootT at h
  have h := List.append_inj (List.cons.inj h).2 rfl
  exact Subtype.ext h.2
theorem foldTs_len {wd : Int} : ∀ (l : List H), ∀ t ∈ foldTs wd l, t.length ≤ 1000
  | [], t, h => by simp [foldTs] at h
  | [_], t, h => by simp [foldTs] at h
  | a :: b :: r, t, h => by
    simp only [foldTs, List.mem_append, List.mem_singleton] at h
    rcases h with h | rfl
    · exact foldTs_len (b :: r) t h
    · rw [foldT_len]; omega
theorem bagTs_len {wd : Int} {n : Nat} (l : List H) : ∀ t ∈ bagTs wd n l, t.length ≤ 1000 := by
  intro t h
  simp only [bagTs, List.mem_append, List.mem_singleton] at h
  rcases h with h | rfl
  · exact foldTs_len l t h
  · rw [rootT_len]; omega
theorem overN_len {wd : Int} {K : Kn} : ∀ (n : Nat) (s : Spot), ∀ t ∈ overN wd K n s, t.length ≤ 1000
  | 0, s, t, h => by simp [overN] at h
  | n + 1, s, t, h => by
    simp only [overN] at h
    split at h
    · simp at h
    · simp only [List.mem_append, List.mem_singleton] at h
      rcases h with (h | h) | rfl
      · exact overN_len n _ t h
      · exact overN_len n _ t h
      · rw [nodeT_len]; omega
theorem reachTs_len {wd : Int} {m n : Nat} (l : List H) : ∀ t ∈ reachTs wd m n l, t.length ≤ 1000 := by
  intro t h
  simp only [reachTs, List.mem_append, List.mem_flatMap] at h
  rcases h with (⟨s, _, h⟩ | h) | h
  · exact overN_len _ _ t h
  · exact bagTs_len _ t h
  · exact bagTs_len _ t h

theorem fold_alike {wd : Int} {T : List (List UInt8)} (hT : ∀ t ∈ T, ∀ u ∈ T, hsum wd t = hsum wd u → t = u) : ∀ (l k : List H), l.length = k.length → (∀ t ∈ foldTs wd l, t ∈ T) → (∀ t ∈ foldTs wd k, t ∈ T) → foldP wd l = foldP wd k → l = k
  | [], [], _, _, _, _ => rfl
  | [a], [b], _, _, _, h => by simpa [foldP] using h
  | a :: b :: r, c :: d :: s, hl, h1, h2, h => by
    simp only [foldTs, List.mem_append, List.mem_singleton] at h1 h2
    have he := hT _ (h1 _ (.inr rfl)) _ (h2 _ (.inr rfl)) h
    obtain ⟨rfl, he2⟩ := foldT_inj he
    have ih := fold_alike hT (b :: r) (d :: s) (by simpa using hl) (fun t ht => h1 t (.inl ht)) (fun t ht => h2 t (.inl ht)) he2
    rw [ih]
  | [], _ :: _, hl, _, _, _ => by simp at hl
  | _ :: _, [], hl, _, _, _ => by simp at hl
  | [_], _ :: _ :: _, hl, _, _, _ => by simp at hl
  | _ :: _ :: _, [_], hl, _, _, _ => by simp at hl

/-! ### Down to what is known -/
inductive Rch (K : Kn) : Spot → Spot → Prop where
  | here {s : Spot} {x : H} (h : getA s K = some x) : Rch K s s
  | left {s t : Spot} (h : getA s K = none) (h0 : 0 < s.h) (r : Rch K (lft s) t) : Rch K s t
  | right {s t : Spot} (h : getA s K = none) (h0 : 0 < s.h) (r : Rch K (rgt s) t) : Rch K s t

theorem down_alike {wd : Int} {T : List (List UInt8)} {K K' : Kn} (hT : ∀ t ∈ T, ∀ u ∈ T, hsum wd t = hsum wd u → t = u) (hk : ∀ s, (getA s K).isSome = (getA s K').isSome) {s t : Spot} (h : Rch K s t)
    (h1 : ∀ x ∈ overTs wd K s, x ∈ T) (h2 : ∀ x ∈ overTs wd K' s, x ∈ T) (hv : valS wd K s = valS wd K' s) : getA t K = getA t K' := by
  induction h with
  | @here s x h =>
    obtain ⟨y, hy⟩ : ∃ y, getA s K' = some y := Option.isSome_iff_exists.1 (by rw [← hk, h]; rfl)
    rw [valS_known h, valS_known hy] at hv
    rw [h, hy, hv]
  | @left s t h h0 r ih =>
    have h' : getA s K' = none := by
      have := hk s
      rw [h] at this
      simpa using this.symm
    rw [overTs_kids h h0] at h1
    rw [overTs_kids h' h0] at h2
    rw [valS_kids h h0, valS_kids h' h0] at hv
    have he := hT _ (h1 _ (by simp)) _ (h2 _ (by simp)) hv
    exact ih (fun x hx => h1 x (by simp [hx])) (fun x hx => h2 x (by simp [hx])) (nodeT_inj he).1
  | @right s t h h0 r ih =>
    have h' : getA s K' = none := by
      have := hk s
      rw [h] at this
      simpa using this.symm
    rw [overTs_kids h h0] at h1
    rw [overTs_kids h' h0] at h2
    rw [valS_kids h h0, valS_kids h' h0] at hv
    have he := hT _ (h1 _ (by simp)) _ (h2 _ (by simp)) hv
    exact ih (fun x hx => h1 x (by simp [hx])) (fun x hx => h2 x (by simp [hx])) (nodeT_inj he).2

/-! ### Spots lie one behind another -/
def start (s : Spot) : Nat := s.i * 2 ^ s.h
def UpL (l : List Spot) : Prop := l.Pairwise fun s t => start s < start t
theorem span_starts (b : Nat) : ∀ d a, b - a = d → UpL (spanF a b) ∧ ∀ s ∈ spanF a b, a ≤ start s ∧ start s < b := by
  intro d
  induction d using Nat.strongRecOn with
  | _ d ih =>
    intro a hd
    by_cases h : a < b
    · have hst := spanH_le h
      have hp := Nat.two_pow_pos (spanH a b)
      rw [spanF_cons h]
      obtain ⟨h1, h2⟩ := ih (b - (a + 2 ^ spanH a b)) (by omega) (a + 2 ^ spanH a b) rfl
      have hdv : 2 ^ spanH a b ∣ a := Nat.dvd_trans (Nat.pow_dvd_pow 2 (Nat.min_le_left _ _)) (low_dvd a)
      have hs : start ⟨spanH a b, a / 2 ^ spanH a b⟩ = a := Nat.div_mul_cancel hdv
      refine ⟨List.pairwise_cons.2 ⟨fun t ht => ?_, h1⟩, fun s hs' => ?_⟩
      · rw [hs]; have := (h2 t ht).1; omega
      · rcases List.mem_cons.1 hs' with rfl | hs'
        · rw [hs]; omega
        · have := h2 s hs'; omega
    · rw [spanF_nil h]
      exact ⟨List.Pairwise.nil, by simp⟩
theorem spots_starts (m n : Nat) : UpL (spotsF m n) := by
  unfold spotsF UpL
  rw [List.pairwise_append]
  obtain ⟨h1, h2⟩ := span_starts m _ 0 rfl
  obtain ⟨h3, h4⟩ := span_starts n _ m rfl
  refine ⟨h1, h3, fun s hs t ht => ?_⟩
  have := (h2 s hs).2
  have := (h4 t ht).1
  omega
theorem up_inj {l : List Spot} (h : UpL l) : ∀ {s t : Spot}, s ∈ l → t ∈ l → start s = start t → s = t := by
  induction l with
  | nil => intro s t hs; cases hs
  | cons a r ih =>
    intro s t hs ht he
    obtain ⟨h1, h2⟩ := List.pairwise_cons.1 h
    rcases List.mem_cons.1 hs with hs1 | hs1
    · rcases List.mem_cons.1 ht with ht1 | ht1
      · rw [hs1, ht1]
      · have := h1 t ht1; rw [hs1] at he; omega
    · rcases List.mem_cons.1 ht with ht1 | ht1
      · have := h1 s hs1; rw [ht1] at he; omega
      · exact ih h2 hs1 ht1 he
theorem up_nodup {l : List Spot} (h : UpL l) : l.Nodup := h.imp fun hlt he => by rw [he] at hlt; omega

/-! ### What is known -/
theorem foldl_get_none : ∀ (L : List (Spot × H)) (K : Kn) (s : Spot), s ∉ L.map (·.1) → getA s (L.foldl (fun K p => setA p.1 p.2 K) K) = getA s K
  | [], _, _, _ => rfl
  | p :: r, K, s, h => by
    simp only [List.map_cons, List.mem_cons, not_or] at h
    simp only [List.foldl_cons]
    rw [foldl_get_none r _ s h.2, getA_set, if_neg h.1]
theorem foldl_get_some : ∀ (L : List (Spot × H)) (K : Kn) (p : Spot × H), (L.map (·.1)).Nodup → p ∈ L → getA p.1 (L.foldl (fun K p => setA p.1 p.2 K) K) = some p.2
  | q :: r, K, p, hn, hp => by
    simp only [List.map_cons, List.nodup_cons] at hn
    simp only [List.foldl_cons]
    rcases List.mem_cons.1 hp with rfl | hp
    · rw [foldl_get_none r _ _ hn.1, getA_set, if_pos rfl]
    · exact foldl_get_some r _ p hn.2 hp
theorem kF_none {s : List Spot} {l : List H} {x : Spot} (h : x ∉ s) (hl : s.length = l.length) : getA x (kF s l) = none := by
  unfold kF
  rw [foldl_get_none]
  · rfl
  · rw [List.map_fst_zip (by omega)]; exact h
theorem kF_get {s : List Spot} {l : List H} (hn : s.Nodup) (hl : s.length = l.length) {i : Nat} (hi : i < s.length) : getA s[i] (kF s l) = some (l[i]'(by omega)) := by
  unfold kF
  refine foldl_get_some (s.zip l) [] (s[i], l[i]'(by omega)) ?_ ?_
  · rw [List.map_fst_zip (by omega)]; exact hn
  · rw [List.mem_iff_getElem]
    exact ⟨i, by simp; omega, by simp⟩

/-! ### What is put together stays within reach -/
structure PInv (K : Kn) (all done L : List Spot) : Prop where
  rch : ∀ t ∈ done, ∃ s ∈ L, Rch K s t
  first : ∀ s ∈ L, ∃ c ∈ all, start c = start s ∧ c.h ≤ s.h
theorem start_up {a b : Spot} (h : sib a b) : start (up a) = start a := by
  obtain ⟨_, h2, _⟩ := h
  unfold start up
  simp only
  rw [Nat.pow_succ, Nat.mul_comm (2 ^ a.h) 2, ← Nat.mul_assoc]
  congr 1
  omega
theorem fuse_inv {K : Kn} {all done : List Spot} (hall : UpL all) (hK : ∀ x, x ∉ all → getA x K = none) : ∀ (L : List Spot), PInv K all done L → PInv K all done (fuse L)
  | [], h => by simpa [fuse] using h
  | [a], h => by simpa [fuse] using h
  | b :: a :: r, h => by
    by_cases hs : sib a b
    · rw [fuse_step hs]
      refine fuse_inv hall hK (up a :: r) ⟨fun t ht => ?_, fun s hs' => ?_⟩
      · have hno : getA (up a) K = none := by
          refine hK _ fun hm => ?_
          obtain ⟨c, hc, hc1, hc2⟩ := h.first a (by simp)
          have := up_inj hall hc hm (by rw [hc1, start_up hs])
          rw [this] at hc2
          have : (up a).h = a.h + 1 := rfl
          omega
        obtain ⟨s, hs', hr⟩ := h.rch t ht
        simp only [List.mem_cons] at hs'
        rcases hs' with rfl | rfl | hs'
        · exact ⟨up a, by simp, .right hno (by simp [up]) (by rw [rgt_up hs]; exact hr)⟩
        · exact ⟨up s, by simp, .left hno (by simp [up]) (by rw [lft_up hs]; exact hr)⟩
        · exact ⟨s, by simp [hs'], hr⟩
      · rcases List.mem_cons.1 hs' with rfl | hs'
        · obtain ⟨c, hc, hc1, hc2⟩ := h.first a (by simp)
          exact ⟨c, hc, by rw [hc1, start_up hs], by simp [up]; omega⟩
        · exact h.first s (by simp [hs'])
    · rw [fuse_stop hs]; exact h
termination_by l => l.length
theorem merge_inv {K : Kn} {all : List Spot} (hall : UpL all) (hK : ∀ x, x ∉ all → getA x K = none) (hK' : ∀ x ∈ all, ∃ y, getA x K = some y) : ∀ (l done m : List Spot), (∀ x ∈ l, x ∈ all) → PInv K all done m → PInv K all (done ++ l) (l.foldl putF m)
  | [], done, m, _, h => by simpa using h
  | s :: r, done, m, hl, h => by
    simp only [List.foldl_cons]
    have h1 : PInv K all (done ++ [s]) (putF m s) := by
      have h2 : PInv K all (done ++ [s]) (s :: m.reverse) := by
        refine ⟨fun t ht => ?_, fun t ht => ?_⟩
        · rcases List.mem_append.1 ht with ht | ht
          · obtain ⟨u, hu, hr⟩ := h.rch t ht
            exact ⟨u, by simp [hu], hr⟩
          · simp at ht
            subst ht
            obtain ⟨y, hy⟩ := hK' t (hl t (by simp))
            exact ⟨t, by simp, .here hy⟩
        · rcases List.mem_cons.1 ht with rfl | ht
          · exact ⟨t, hl t (by simp), rfl, Nat.le_refl _⟩
          · exact h.first t (by simpa using ht)
      have h3 := fuse_inv hall hK _ h2
      refine ⟨fun t ht => ?_, fun t ht => ?_⟩
      · obtain ⟨u, hu, hr⟩ := h3.rch t ht
        exact ⟨u, by simpa [putF] using hu, hr⟩
      · exact h3.first t (by simpa [putF] using ht)
    have := merge_inv hall hK hK' r (done ++ [s]) (putF m s) (fun x hx => hl x (by simp [hx])) h1
    simpa using this

theorem fork_law : ForkLaw := by
  intro wd m n a b r p q hmn hp hq hab
  obtain ⟨hd1, hm1, hn1, he1, hx1, hy1⟩ := prefixE_zero hp
  obtain ⟨hd2, hm2, hn2, he2, hx2, hy2⟩ := prefixE_zero hq
  obtain ⟨_, hn62, hl1⟩ := encE_zero he1
  obtain ⟨_, _, hl2⟩ := encE_zero he2
  have hinv : BInv wd (forkS wd m n p q) := by
    unfold forkS
    rw [← addsB_append]
    refine addsB_inv _ ⟨by simp [getA], by simp⟩ fun t ht => ?_
    rcases List.mem_append.1 ht with ht | ht
    · exact reachTs_len _ t ht
    · exact reachTs_len _ t ht
  cases hf : (forkS wd m n p q).found with
  | some xy => exact ⟨xy.1, xy.2, rfl, hinv.found _ _ hf⟩
  | none =>
    exfalso
    have hf' : (addsB wd ⟨[], none⟩ (reachTs wd m n (decL p) ++ reachTs wd m n (decL q))).found = none := by rw [addsB_append]; exact hf
    have hT := no_clash hf'
    generalize hTT : reachTs wd m n (decL p) ++ reachTs wd m n (decL q) = T at hT
    have t1 : ∀ t ∈ reachTs wd m n (decL p), t ∈ T := fun t ht => by rw [← hTT]; exact List.mem_append_left _ ht
    have t2 : ∀ t ∈ reachTs wd m n (decL q), t ∈ T := fun t ht => by rw [← hTT]; exact List.mem_append_right _ ht
    generalize decL p = P at *
    generalize decL q = Q at *
    have isRoot : ∀ (k : Nat) (l : List H) (x : H), isF wd k l x = true → l.length = ones k ∧ rootH wd k (foldP wd l) = x := fun k l x h => by
      simp only [isF, Bool.and_eq_true, bagF] at h
      split at h
      · exact absurd h.1 (by simp)
      · split at h
        · exact absurd h.1 (by simp)
        · rename_i h2
          exact ⟨by omega, by simpa using h.2⟩
    obtain ⟨g1, g2⟩ := isRoot _ _ _ hy1
    obtain ⟨g3, g4⟩ := isRoot _ _ _ hy2
    have mem1 : ∀ {l : List H} {t : List UInt8}, t ∈ bagTs wd n (reachY wd m n l) → t ∈ reachTs wd m n l := fun h => List.mem_append_right _ h
    have hroot := hT _ (t1 _ (mem1 (List.mem_append_right _ (List.mem_singleton.2 rfl)))) _ (t2 _ (mem1 (List.mem_append_right _ (List.mem_singleton.2 rfl)))) (show rootH wd n _ = rootH wd n _ by rw [g2, g4])
    have hY := fold_alike hT _ _ (by rw [g1, g3]) (fun t ht => t1 t (mem1 (List.mem_append_left _ ht))) (fun t ht => t2 t (mem1 (List.mem_append_left _ ht))) (rootT_inj hroot)
    have hall := spots_starts m n
    have hnd := up_nodup hall
    have hK1 : ∀ x, x ∉ spotsF m n → getA x (kF (spotsF m n) P) = none := fun x hx => kF_none hx hl1.symm
    have hK2 : ∀ x, x ∉ spotsF m n → getA x (kF (spotsF m n) Q) = none := fun x hx => kF_none hx hl2.symm
    have hk : ∀ s, (getA s (kF (spotsF m n) P)).isSome = (getA s (kF (spotsF m n) Q)).isSome := fun s => by
      by_cases hs : s ∈ spotsF m n
      · obtain ⟨y, hy⟩ := kF_some hl1.symm hs
        obtain ⟨z, hz⟩ := kF_some hl2.symm hs
        rw [hy, hz]
        rfl
      · rw [hK1 s hs, hK2 s hs]
    have hpi := merge_inv hall hK1 (fun x hx => kF_some hl1.symm hx) (spotsF m n) [] [] (fun _ h => h) ⟨by simp, by simp⟩
    have hPQ : P = Q := by
      apply List.ext_getElem (by rw [hl1, hl2])
      intro i hi1 hi2
      have his : i < (spotsF m n).length := by omega
      obtain ⟨s, hs, hr⟩ := hpi.rch (spotsF m n)[i] (by simp)
      have hs : s ∈ mergeF (spotsF m n) := hs
      have hv : valS wd (kF (spotsF m n) P) s = valS wd (kF (spotsF m n) Q) s := List.map_inj_left.1 hY s hs
      have hd := down_alike hT hk hr (fun x hx => t1 x (List.mem_append_left _ (List.mem_append_left _ (List.mem_flatMap.2 ⟨s, hs, hx⟩)))) (fun x hx => t2 x (List.mem_append_left _ (List.mem_append_left _ (List.mem_flatMap.2 ⟨s, hs, hx⟩)))) hv
      rw [kF_get hnd hl1.symm his, kF_get hnd hl2.symm his] at hd
      exact Option.some.inj hd
    subst hPQ
    obtain ⟨_, g5⟩ := isRoot _ _ _ hx1
    obtain ⟨_, g6⟩ := isRoot _ _ _ hx2
    exact hab (g5.symm.trans g6)
end Go.Proofs.YtgeemplpgfiidaaGreatDoor.Mv
/- The frame of a law that leaves all old memory alone: its arguments opened, its end shut. No program in sight. -/
namespace Go.Proofs.YtgeemplpgfiidaaGreatDoor.Mv
open Go Go.RowKit Go.ChangeShapes

section
variable {K : Type} {enc : TypeId × Value → K} {P : Program}

theorem trodAll_stays (hl : laidOutB P = true) {W W' : World} (hb : Below W.heap.size W W') : ∀ (ts : List TypeId) (vs : List Value) (ds : List (DataW K)) (ps : List MemPlace), (ts.all fun t => P.readableRec t && decide (t < P.types.size)) = true →
    DataW.TrodAll enc P W 0 (fun _ => true) true ts vs ds ps → (∀ x ∈ ps, x.block < W.heap.size) → DataW.TrodAll enc P W' 0 (fun b => decide (b < W.heap.size)) true ts vs ds ps
  | [], [], [], _, _, h, _ => h
  | t :: ts, v :: vs, d :: ds, ps, hp, h, hlt => by
    obtain ⟨p, q, h1, h2, rfl⟩ := h
    simp only [List.all_cons, Bool.and_eq_true, decide_eq_true_eq] at hp
    exact ⟨p, q, Below.trod hl hp.1.1 hp.1.2 h1 hb (fun x hx => hlt x (List.mem_append_left _ hx)), trodAll_stays hl hb ts vs ds q hp.2 h2 (fun x hx => hlt x (List.mem_append_right _ hx)), rfl⟩
  | [], [], _ :: _, _, _, h, _ => h.elim
  | [], _ :: _, _, _, _, h, _ => h.elim
  | _ :: _, [], _, _, _, h, _ => h.elim
  | _ :: _, _ :: _, [], _, _, h, _ => h.elim

theorem post_ext {f : Func} {s : ChangeSpec} {apart fresh handsOn : Bool} {W W' : World} {args : Array Value} {v : Value} {ds gs : List (DataW K)} {before : List MemPlace} (hl : laidOutB P = true)
    (hp : (f.params.toList.all fun t => P.readableRec t && decide (t < P.types.size)) = true) (hvs : s.vars = [])
    (hW : DataW.Whole enc P f.params.toList s.vars apart W args.toList ds gs before) (hE : Below W.heap.size W W')
    (hres : ∀ (b : Nat) (sp : Nat → Bool) (hd : Bool), DataW.TrodAll enc P W' b sp hd f.resultTypes.toList (v.resultList f.resultTypes.size) (s.fn K ds).results [])
    (hargs : (s.fn K ds).args = ds) (hv0 : (s.fn K ds).vars = []) : s.post enc P f apart fresh handsOn false W args v W' := by
  have hlt := hW.lt
  obtain ⟨p, q, hA, hV, rfl, hfz, hnd⟩ := id hW
  rw [hvs] at hV
  obtain ⟨rfl, rfl⟩ := trodVars_none hV
  have h0 : ds ++ ([] : List (DataW K)) = ds := List.append_nil ds
  refine ⟨ds, [], p ++ [], [], p, [], hW, ?_, ?_, ?_, Below.frame hE _, fun h => by cases h⟩
  · rw [h0]; exact hres _ _ _
  · rw [h0, hargs]
    exact trodAll_stays hl hE _ _ _ _ hp hA (fun x hx => hlt x (by simpa using hx))
  · rw [h0, hv0, hvs]
    exact rfl

/-! ### Arguments opened -/
theorem okInt {W : World} {r : Reach} {b : Nat} {t : TypeId} {k : IntKind} {v : Value} (ht : P.underlying t = some (.int k)) (h : Value.okWide P W r b t v) : ∃ n, v = .int k n ∧ k.min ≤ n ∧ n ≤ k.max := by
  simp only [Value.okWide, ht, Cell.okWide, Cell.ok] at h
  cases v <;> simp at h
  rename_i k' n
  obtain ⟨rfl, h⟩ := h
  exact ⟨n, rfl, h⟩
theorem okU64 {W : World} {r : Reach} {b : Nat} {t : TypeId} {v : Value} (ht : P.underlying t = some (.int .u64)) (h : Value.okWide P W r b t v) : ∃ n : Nat, v = .int .u64 n ∧ n < 18446744073709551616 := by
  obtain ⟨n, rfl, h1, h2⟩ := okInt ht h
  simp [IntKind.min, IntKind.max, IntKind.signed, IntKind.bits] at h1 h2
  exact ⟨n.toNat, by congr 1; omega, by omega⟩
theorem okHash {W : World} {r : Reach} {b : Nat} {t e : TypeId} {v : Value} (ht : P.underlying t = some (.array 32 e)) (he : P.underlying e = some (.int .u8)) (hc : P.cellsOf t = 32) (hct : P.cellTypes P.depth t = some (List.replicate 32 e))
    (h : Value.okWide P W r b t v) : ∃ a : H, v = H.val a := by
  simp only [Value.okWide, ht] at h
  obtain ⟨cs, rfl, hsz, ts, hts, _, hcell⟩ := h
  obtain rfl := Option.some.inj (hct.symm.trans hts)
  rw [hc] at hsz
  have each : ∀ i (hi : i < cs.size), ∃ n : Nat, cs[i] = .int .u8 n ∧ n < 256 := fun i hi => by
    obtain ⟨u, hu, hok⟩ := hcell i _ (Array.getElem?_eq_getElem hi)
    have : u = e := by
      rw [List.length_replicate, List.getElem?_replicate] at hu
      split at hu
      · exact (Option.some.inj hu).symm
      · cases hu
    subst this
    simp only [Cell.okWide, Cell.ok, he] at hok
    generalize cs[i] = v at hok
    cases v <;> simp at hok
    rename_i k' n
    obtain ⟨rfl, h1, h2⟩ := hok
    simp [IntKind.min, IntKind.max, IntKind.signed, IntKind.bits] at h1 h2
    exact ⟨n.toNat, by congr 1; omega, by omega⟩
  refine ⟨⟨cs.toList.map fun v => match v with | .int _ n => UInt8.ofNat n.toNat | _ => 0, by simp [hsz]⟩, ?_⟩
  unfold H.val H.cells
  simp only [List.map_map]
  congr 1
  apply Array.ext
  · simp
  · intro i h1 h2
    obtain ⟨n, hn, hlt⟩ := each i h1
    simp [hn, byteV]
    omega
theorem okBytes {W : World} {r : Reach} {b : Nat} {t e : TypeId} {v : Value} {d : DataW K} {ps : List MemPlace} (ht : P.underlying t = some (.slice e)) (he : P.underlying e = some (.int .u8)) (hc : P.cellsOf e = 1)
    (h : Value.okWide P W r b t v) (hd : DataW.Trod enc P W 0 (fun _ => true) true t v d ps) : ∃ l, Seq codByte W v l := by
  obtain ⟨fuel, hd⟩ := hd
  simp only [Value.okWide, ht, Cell.okWide, Cell.ok] at h
  rcases open_ints ht he hc hd with ⟨h1, _⟩ | ⟨a, len, cap, zs, h1, _, hlc, _, hzl, _, hcells, hwf⟩
  · have hv : v = .slice none 0 0 := by
      cases v <;> simp [Value.cells] at h1 h ⊢
      exact h1
    subst hv
    exact ⟨[], Seq.nil _ _⟩
  · have hv : v = .slice (some a) len cap := by
      cases v <;> simp [Value.cells] at h1 h ⊢
      exact h1
    subst hv
    simp at h
    obtain ⟨_, _, _, hspot, row, cells, hshape, _⟩ := h
    have hblt : a.block < W.heap.size := by
      rcases Nat.lt_or_ge a.block W.heap.size with hh | hh
      · exact hh
      · simp [World.shape?, Array.getElem?_eq_none hh] at hshape
    obtain ⟨ab, ao, asp⟩ := a
    simp only at hspot
    subst hspot
    simp only [if_true] at hzl
    refine ⟨(zs.take len).map fun n => UInt8.ofNat n.toNat, .inr ⟨ab, ao, cap, ?_, ?_, hblt, ?_⟩⟩
    · simp; omega
    · simp; omega
    · intro j u hu
      rw [codByte_all, List.map_map, List.getElem?_map] at hu
      cases hz : (zs.take len)[j]? with
      | none => rw [hz] at hu; cases hu
      | some z =>
        rw [hz] at hu
        cases hu
        have hzj : zs[j]? = some z := by
          rw [List.getElem?_take] at hz
          split at hz
          · exact hz
          · cases hz
        have hjl := (List.getElem?_eq_some_iff.1 hzj).1
        have := hcells j hjl
        rw [Addr.add_lit] at this
        rw [this, List.getD_eq_getElem?_getD, hzj]
        have hw := hwf z (List.mem_of_getElem? hzj)
        simp [Lit.wf, IntKind.min, IntKind.max, IntKind.signed, IntKind.bits] at hw
        simp [byteV]
        omega

/-! ### Laid variables -/
theorem laid_array {W : World} {base fuel : Nat} {sp : Nat → Bool} {held : Bool} {t e n : Nat} {kd : IntKind} {cs : List Value} {l : List Int} {p : List MemPlace} (ht : P.underlying t = some (.array n e)) (he : P.underlying e = some (.int kd)) (hc : P.cellsOf e = 1)
    (ht2 : P.cellsOf t = n) (h : DataW.trod enc P W base sp held fuel t cs = some (.agg (l.map fun n => .lit (.int kd n)), p)) : cs = l.map (Value.int kd) := by
  obtain ⟨xs, m, rfl, hx, hlen, hxl, hel⟩ := DataW.trod_array ht h
  simp only [Prod.mk.injEq, DataW.agg.injEq] at hx
  have hll : l.length = n := by have := congrArg List.length hx.1; simp at this; omega
  apply List.ext_getElem?
  intro i
  by_cases hi : i < n
  · have h1 := hel i hi
    rw [hc, Nat.mul_one] at h1
    have hil : i < cs.length := by rw [hlen, ht2]; exact hi
    have h2 : (cs.drop i).take 1 = [cs[i]] := by rw [List.drop_eq_getElem_cons hil, List.take_succ_cons, List.take_zero]
    rw [h2, List.getElem?_eq_getElem (show i < xs.length by omega)] at h1
    obtain ⟨k, e1, e2, _⟩ := DataW.trod_int he h1
    have h3 : xs[i].1 = .lit (.int kd (l[i]'(by omega))) := by
      have := congrArg (fun L => L[i]?) hx.1
      simp [List.getElem?_eq_getElem (show i < l.length by omega), List.getElem?_eq_getElem (show i < xs.length by omega)] at this
      exact this.symm
    rw [e2] at h3
    simp at h3
    rw [List.getElem?_eq_getElem hil, List.getElem?_map, List.getElem?_eq_getElem (show i < l.length by omega)]
    simp at e1
    rw [e1, h3]
    rfl
  · rw [List.getElem?_eq_none (by rw [hlen, ht2]; omega), List.getElem?_eq_none (by simp; omega)]
end
end Go.Proofs.YtgeemplpgfiidaaGreatDoor.Mv
