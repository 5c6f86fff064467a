/- judge: what a judge holds; New, knows, See, Link. -/
import Derived.Test.YtgeemplpgfiidaaGreatDoorLi
import Derived.Test.YtgeemplpgfiidaaGreatDoorLc
namespace Go.Proofs.YtgeemplpgfiidaaGreatDoor.Mv
open Go Go.RowKit Go.Proofs

/-- Maps whose values lie in memory. -/
def VRel {α β : Type} (R : Value → β → Prop) : List (α × Value) → List (α × β) → Prop
  | [], [] => True
  | p :: r, q :: s => p.1 = q.1 ∧ R p.2 q.2 ∧ VRel R r s
  | _, _ => False
section
variable {α β : Type} {R R' : Value → β → Prop}
theorem VRel.mono (h : ∀ v b, R v b → R' v b) : ∀ {r : List (α × Value)} {s : List (α × β)}, VRel R r s → VRel R' r s
  | [], [], _ => trivial
  | _ :: _, _ :: _, H => ⟨H.1, h _ _ H.2.1, VRel.mono h H.2.2⟩
  | [], _ :: _, H => H.elim
  | _ :: _, [], H => H.elim
theorem VRel.keys : ∀ {r : List (α × Value)} {s : List (α × β)}, VRel R r s → r.map (·.1) = s.map (·.1)
  | [], [], _ => rfl
  | _ :: _, _ :: _, H => by simp [H.1, VRel.keys H.2.2]
  | [], _ :: _, H => H.elim
  | _ :: _, [], H => H.elim
variable [DecidableEq α]
theorem VRel.get {a : α} : ∀ {r : List (α × Value)} {s : List (α × β)}, VRel R r s → (getA a r = none ∧ getA a s = none) ∨ ∃ v b, getA a r = some v ∧ getA a s = some b ∧ R v b
  | [], [], _ => .inl ⟨rfl, rfl⟩
  | p :: r, q :: s, H => by
    simp only [getA, H.1]
    by_cases hq : a = q.1
    · rw [if_pos hq, if_pos hq]; exact .inr ⟨_, _, rfl, rfl, H.2.1⟩
    · rw [if_neg hq, if_neg hq]; exact VRel.get H.2.2
  | [], _ :: _, h => h.elim
  | _ :: _, [], h => h.elim
theorem VRel.set {a : α} {v : Value} {b : β} (ht : R v b) : ∀ {r : List (α × Value)} {s : List (α × β)}, VRel R r s → VRel R (setA a v r) (setA a b s)
  | [], [], _ => ⟨rfl, ht, trivial⟩
  | p :: r, q :: s, H => by
    simp only [setA, H.1]
    by_cases hq : a = q.1
    · rw [if_pos hq, if_pos hq]; exact ⟨rfl, ht, H.2.2⟩
    · rw [if_neg hq, if_neg hq]; exact ⟨H.1, H.2.1, VRel.set ht H.2.2⟩
  | [], _ :: _, h => h.elim
  | _ :: _, [], h => h.elim
end
theorem getA_mem {α β : Type} [DecidableEq α] (a : α) : ∀ (l : List (α × β)), (getA a l).isSome = decide (a ∈ l.map (·.1))
  | [] => by simp [getA]
  | p :: r => by
    simp only [getA, List.map_cons, List.mem_cons]
    by_cases h : a = p.1
    · simp [h]
    · rw [if_neg h, getA_mem a r]; simp [h]

structure JudgeS where
  heads : List Head
  links : List (Link × List UInt8)
def unitV : Value := .agg #[]
def addH (x : Head) (l : List Head) : List Head := if x ∈ l then l else l ++ [x]
theorem addH_map (x : Head) : ∀ l : List Head, setA x unitV (l.map fun h => (h, unitV)) = (addH x l).map fun h => (h, unitV)
  | [] => by simp [setA, addH]
  | p :: r => by
    have ih := addH_map x r
    simp only [List.map_cons, setA]
    by_cases h : x = p
    · subst h; simp [addH]
    · rw [if_neg h, ih]
      unfold addH
      by_cases hx : x ∈ r
      · simp [hx]
      · simp [hx, h]

structure JudgeAt (wd : Int) (w : World) (J bh bl : Nat) (A : Nat → Prop) (S : JudgeS) : Prop where
  own : Own w J [.int .i64 wd, .map (some bh), .map (some bl)]
  heads : MapAt Head.val w bh (S.heads.map fun h => (h, unitV))
  links : ∃ vals, MapAt Link.val w bl vals ∧ VRel (fun v t => Seq codByte w v t ∧ t.length < 1048576 ∧ ∀ x, inBlock v x → ¬ A x) vals S.links
  ne : J ≠ bh ∧ J ≠ bl ∧ bh ≠ bl
  inA : A J ∧ A bh ∧ A bl
  lt : ∀ x, A x → x < w.heap.size
section
variable {wd : Int} {w w' : World} {J bh bl : Nat} {A : Nat → Prop} {S : JudgeS}
theorem JudgeAt.ext (h : JudgeAt wd w J bh bl A S) (e : Ext w w') : JudgeAt wd w' J bh bl A S := by
  obtain ⟨vals, h1, h2⟩ := h.links
  exact ⟨h.own.ext e, h.heads.ext e, ⟨vals, h1.ext e, h2.mono fun v t h => ⟨h.1.ext e, h.2⟩⟩, h.ne, h.inA, fun x hx => Nat.lt_of_lt_of_le (h.lt x hx) e.size⟩
theorem JudgeAt.upd {g : Nat} (h : JudgeAt wd w J bh bl A S) (e : Upd g w w') (hg : A g) (hn : g ≠ J ∧ g ≠ bh ∧ g ≠ bl) : JudgeAt wd w' J bh bl A S := by
  obtain ⟨vals, h1, h2⟩ := h.links
  exact ⟨h.own.upd e (Ne.symm hn.1), h.heads.upd e (Ne.symm hn.2.1), ⟨vals, h1.upd e (Ne.symm hn.2.2), h2.mono fun v t h => ⟨h.1.upd e (fun hb => h.2.2 g hb hg), h.2⟩⟩, h.ne, h.inA, fun x hx => Nat.lt_of_lt_of_le (h.lt x hx) e.size⟩
theorem JudgeAt.ltJ (h : JudgeAt wd w J bh bl A S) : J < w.heap.size ∧ bh < w.heap.size ∧ bl < w.heap.size := by
  obtain ⟨vals, h1, h2⟩ := h.links
  exact ⟨h.own.lt, h.heads.lt, h1.lt⟩
theorem JudgeAt.atwd (h : JudgeAt wd w J bh bl A S) : w.cell? ⟨J, 0, none⟩ = some (.int .i64 wd) := by rw [h.own.cell]; rfl
theorem JudgeAt.atbh (h : JudgeAt wd w J bh bl A S) : w.cell? ⟨J, 0 + 1, none⟩ = some (.map (some bh)) := by rw [h.own.cell]; rfl
theorem JudgeAt.atbl (h : JudgeAt wd w J bh bl A S) : w.cell? ⟨J, 0 + 2, none⟩ = some (.map (some bl)) := by rw [h.own.cell]; rfl
end

theorem tfUnit : TyF Tryz.prog 84 true 0 := ⟨Tryz.isAgg84, Tryz.sizeOf84⟩

theorem newJudge_ok (wd : Int) (w : World) : Does Tryz.prog 6 [.int .i64 wd] w (fun r w' => ∃ J bh bl, r = pt J ∧ w.heap.size ≤ J ∧ w.heap.size ≤ bh ∧ w.heap.size ≤ bl ∧ J < w'.heap.size ∧ bh < w'.heap.size ∧ bl < w'.heap.size ∧ (J ≠ bh ∧ J ≠ bl ∧ bh ≠ bl) ∧
    (∀ A : Nat → Prop, A J → A bh → A bl → (∀ x, A x → x < w'.heap.size) → JudgeAt wd w' J bh bl A ⟨[], []⟩) ∧ Ext w w') := by
  (refine DoesX.of_vc tyOk Tryz.func6 rfl ⟨rfl, rfl⟩ rfl ?_; (conv => whnf))
  refine RunP.makeMap (val := Head.val) ?_
  intro bh w1 hbh hM1 hE1
  have hs1 := hE1.size
  have hl1 := hM1.lt
  (conv => whnf)
  refine RunP.makeMap (val := Link.val) ?_
  intro bl w2 hbl hM2 hE2
  have hs2 := hE2.size
  have hl2 := hM2.lt
  (conv => whnf)
  refine GetP.build (cells := #[.int .i64 wd, .map (some bh), .map (some bl)]) (by kernel_rfl) ?_
  (conv => whnf)
  refine RunP.box ?_
  intro J w3 hJ hO hE3
  have hO : Own w3 J [.int .i64 wd, .map (some bh), .map (some bl)] := hO
  have hs3 := hE3.size
  have hl3 := hO.lt
  (conv => whnf)
  exact ⟨J, bh, bl, rfl, by omega, by omega, by omega, by omega, by omega, by omega, by omega, fun A h1 h2 h3 h4 => ⟨hO, (hM1.ext hE2).ext hE3, ⟨[], hM2.ext hE3, trivial⟩, by omega, ⟨h1, h2, h3⟩, h4⟩, (hE1.trans hE2).trans hE3⟩

theorem knows_ok (wd : Int) (J bh bl : Nat) (A : Nat → Prop) (S : JudgeS) (x : Head) (w : World) (hJ : JudgeAt wd w J bh bl A S) :
    Does Tryz.prog 37 [pt J, Head.val x] w (fun r w' => r = .bool (decide (x ∈ S.heads)) ∧ Ext w w') := by
  (refine DoesX.of_vc tyOk Tryz.func37 rfl ⟨rfl, rfl⟩ rfl ?_; (conv => whnf))
  refine RunP.box ?_
  intro b3 w1 hb3 hO3 hE1
  have hs1 := hE1.size
  have hO3 : Own w1 b3 (Head.cells x) := by simpa [Head.val, Value.cells] using hO3
  (conv => whnf)
  refine draw_ext tyOk mixed (.q 0 (.q 1 (.q 2 (.q 3 (.q 4 (.q 5 (.q 6 (.q 7 (.q 8 (.e [(9, .e [(10, .q 11 (.done))])])))))))))) (by kernel_rfl) ?_
  intro w2 hE2 hs2
  have hJ2 := hJ.ext (hE1.trans hE2)
  have hO3 := hO3.ext hE2
  (conv => whnf)
  refine GetP.ldS tfHeadMap (v := .map (some bh)) (fun w' hw' => (hJ2.ext hw').atbh) ?_
  (conv => whnf)
  refine GetP.ldsS tfHead (Head.len x) (fun w' hw' => (hO3.ext hw').cells) ?_
  (conv => whnf)
  refine GetP.lookup (l := S.heads.map fun h => (h, unitV)) (z := unitV) keyHead Tryz.underlying79 Tryz.zeroValue84 (fun w' hw' => (hJ2.ext hw').heads) x ?_
  have hg : (getA x (S.heads.map fun h => (h, unitV))).getD unitV = unitV := by
    cases hq : getA x (S.heads.map fun h => (h, unitV)) with
    | none => rfl
    | some v =>
      have : ∀ l : List Head, ∀ v, getA x (l.map fun h => (h, unitV)) = some v → v = unitV := by
        intro l
        induction l with
        | nil => intro v hv; cases hv
        | cons p r ih =>
          intro v hv
          simp only [List.map_cons, getA] at hv
          split at hv
          · cases hv; rfl
          · exact ih v hv
      exact this _ _ hq
  have hb : (getA x (S.heads.map fun h => (h, unitV))).isSome = decide (x ∈ S.heads) := by rw [getA_mem]; simp [List.map_map, Function.comp_def]
  rw [hg, hb]
  (conv => whnf)
  refine RunP.new (z := unitV) Tryz.zeroValue84 ?_
  intro b5 w3 hb5 hO5 hE3
  have hs3 := hE3.size
  have hO5 : Own w3 b5 [] := hO5
  (conv => whnf)
  (refine BarP.no ?_)
  refine ReqP.mk hE3 ?_
  (conv => whnf)
  refine DoP.sts0 tfUnit (vs := []) hO5 rfl rfl (by simp) ?_
  intro w4 hO5 hU4
  have hE4 : Ext w2 w4 := hE3.upd hU4 hb5
  (conv => whnf)
  (refine BarP.no ?_)
  refine ReqP.mk hE4 ?_
  (conv => whnf)
  exact ⟨rfl, (hE1.trans hE2).trans hE4⟩

theorem see_ok (wd : Int) (J bh bl : Nat) (A : Nat → Prop) (S : JudgeS) (x : Head) (w : World) (hJ : JudgeAt wd w J bh bl A S) (hn : x.n ≤ 4611686018427387904) (hl : S.heads.length < 4096) :
    Does Tryz.prog 7 [pt J, Head.val x] w (fun r w' => r = .int .i64 0 ∧ JudgeAt wd w' J bh bl A ⟨addH x S.heads, S.links⟩ ∧ Upd bh w w') := by
  (refine DoesX.of_vc tyOk Tryz.func7 rfl ⟨rfl, rfl⟩ rfl ?_; (conv => whnf))
  refine RunP.box ?_
  intro b3 w1 hb3 hO3 hE1
  have hs1 := hE1.size
  have hO3 : Own w1 b3 (Head.cells x) := by simpa [Head.val, Value.cells] using hO3
  have hJ1 := hJ.ext hE1
  (conv => whnf)
  refine GetP.ld tfU64 (v := .int .u64 x.n) (by rw [hO3.cell]; rfl) ?_
  (conv => whnf)
  (refine CmpP.no (by first | decide | (simp; done) | (simp; omega)) ?_; (conv => whnf))
  refine GetP.ld tfHeadMap (v := .map (some bh)) hJ1.atbh ?_
  (conv => whnf)
  refine GetP.lenMap (l := S.heads.map fun h => (h, unitV)) Tryz.underlying79 (fun w' hw' => hw' ▸ hJ1.heads) ?_
  (conv => whnf)
  refine CmpP.no (by simp; omega) ?_
  (conv => whnf)
  refine draw_ext tyOk mixed (.q 0 (.q 1 (.q 2 (.q 3 (.q 4 (.q 5 (.e [(6, .done)]))))))) (by kernel_rfl) ?_
  intro w2 hE2 hs2
  have hJ2 := hJ1.ext hE2
  have hO3 := hO3.ext hE2
  (conv => whnf)
  refine GetP.ldS tfHeadMap (v := .map (some bh)) (fun w' hw' => (hJ2.ext hw').atbh) ?_
  (conv => whnf)
  refine GetP.ldsS tfHead (Head.len x) (fun w' hw' => (hO3.ext hw').cells) ?_
  (conv => whnf)
  refine GetP.build (cells := #[]) (by kernel_rfl) ?_
  (conv => whnf)
  refine DoP.mapUpdate (l := S.heads.map fun h => (h, unitV)) keyHead Tryz.underlying79 hJ2.heads x ?_
  intro w3 hM3 hU3
  (conv => whnf)
  (refine BarP.yes (by decide +kernel) ?_; (conv => whnf))
  refine ⟨rfl, ?_, (Upd.of_ext (hE1.trans hE2)).trans hU3⟩
  obtain ⟨n1, n2, n3⟩ := hJ.ne
  obtain ⟨vals, h1, h2⟩ := hJ2.links
  have hM3 : MapAt Head.val w3 bh (setA x unitV (S.heads.map fun h => (h, unitV))) := hM3
  rw [addH_map] at hM3
  exact ⟨hJ2.own.upd hU3 n1, hM3, ⟨vals, h1.upd hU3 (Ne.symm n3), h2.mono fun v t h => ⟨h.1.upd hU3 (fun hb => h.2.2 bh hb hJ2.inA.2.1), h.2⟩⟩, hJ.ne, hJ.inA, fun y hy => Nat.lt_of_lt_of_le (hJ2.lt y hy) hU3.size⟩

def linkE (wd : Int) (S : JudgeS) (a b : Head) (t : List UInt8) : Int := if a ∈ S.heads ∧ b ∈ S.heads then prefixE wd a.n a.h b.n b.h t else 180
def addL (x : Link) (t : List UInt8) (l : List (Link × List UInt8)) : List (Link × List UInt8) := if x ∈ l.map (·.1) then l else setA x t l

theorem link_ok (wd : Int) (J bh bl : Nat) (A : Nat → Prop) (S : JudgeS) (a b : Head) (v : Value) (t : List UInt8) (w : World) (hg : Glob w) (hJ : JudgeAt wd w J bh bl A S) (ha : a.n < 18446744073709551616) (hb : b.n < 18446744073709551616) (hv : Seq codByte w v t) (ht : t.length < 1048576) (hl : S.links.length < 4096) :
    Does Tryz.prog 9 [pt J, Head.val a, Head.val b, v] w (fun r w' => r = .int .i64 (linkE wd S a b t) ∧ JudgeAt wd w' J bh bl A (if linkE wd S a b t = 0 then ⟨S.heads, addL ⟨a, b⟩ t S.links⟩ else S) ∧ Upd bl w w') := by
  (refine DoesX.of_vc tyOk Tryz.func9 rfl ⟨rfl, rfl⟩ rfl ?_; (conv => whnf))
  refine RunP.box ?_
  intro b5 w1 hb5 hO5 hE1
  have hO5 : Own w1 b5 (Head.cells a) := by simpa [Head.val, Value.cells] using hO5
  (conv => whnf)
  refine RunP.box ?_
  intro b6 w2 hb6 hO6 hE2
  have hO6 : Own w2 b6 (Head.cells b) := by simpa [Head.val, Value.cells] using hO6
  have hO5 := hO5.ext hE2
  have hE2 := hE1.trans hE2
  (conv => whnf)
  refine GetP.lds tfHead (Head.len a) hO5.cells ?_
  (conv => whnf)
  refine CallP.does (knows_ok wd J bh bl A S a w2 (hJ.ext hE2)) ?_
  rintro r w3 ⟨rfl, hE3⟩
  have hO5 := hO5.ext hE3
  have hO6 := hO6.ext hE3
  have hE3 := hE2.trans hE3
  by_cases hka : a ∈ S.heads
  rotate_left
  · rw [decide_eq_false hka]
    have hL : linkE wd S a b t = 180 := by unfold linkE; rw [if_neg (fun h => hka h.1)]
    (conv => whnf)
    rw [hL]
    exact ⟨rfl, hJ.ext hE3, .of_ext hE3⟩
  rw [decide_eq_true hka]
  (conv => whnf)
  refine GetP.lds tfHead (Head.len b) hO6.cells ?_
  (conv => whnf)
  refine CallP.does (knows_ok wd J bh bl A S b w3 (hJ.ext hE3)) ?_
  rintro r w4 ⟨rfl, hE4⟩
  have hO5 := hO5.ext hE4
  have hO6 := hO6.ext hE4
  have hE4 := hE3.trans hE4
  by_cases hkb : b ∈ S.heads
  rotate_left
  · rw [decide_eq_false hkb]
    have hL : linkE wd S a b t = 180 := by unfold linkE; rw [if_neg (fun h => hkb h.2)]
    (conv => whnf)
    rw [hL]
    exact ⟨rfl, hJ.ext hE4, .of_ext hE4⟩
  rw [decide_eq_true hkb]
  have hL : linkE wd S a b t = prefixE wd a.n a.h b.n b.h t := by unfold linkE; rw [if_pos ⟨hka, hkb⟩]
  (conv => whnf)
  refine draw_ext tyOk mixed (.q 0 (.q 1 (.q 2 (.q 3 (.q 4 (.q 5 (.q 6 (.q 7 (.q 8 (.q 9 (.q 10 (.q 11 (.q 12 (.e [(13, .q 14 (.done))])))))))))))))) (by kernel_rfl) ?_
  intro w5 hE5 hs5
  have hO5 := hO5.ext hE5
  have hO6 := hO6.ext hE5
  have hE5 := hE4.trans hE5
  have hJ5 := hJ.ext hE5
  (conv => whnf)
  refine GetP.ldS tfInt (v := .int .i64 wd) (fun w' hw' => (hJ5.ext hw').atwd) ?_
  (conv => whnf)
  refine GetP.ldS tfU64 (v := .int .u64 a.n) (fun w' hw' => by rw [(hO5.ext hw').cell]; rfl) ?_
  (conv => whnf)
  refine GetP.ldsS tfHash (H.len a.h) (fun w' hw' => by have := CellsAt.mid (pre := [u64V a.n]) (mid := H.cells a.h) (post := []) (by simpa [Head.cells] using (hO5.ext hw').cells); exact this) ?_
  (conv => whnf)
  refine GetP.ldS tfU64 (v := .int .u64 b.n) (fun w' hw' => by rw [(hO6.ext hw').cell]; rfl) ?_
  (conv => whnf)
  refine GetP.ldsS tfHash (H.len b.h) (fun w' hw' => by have := CellsAt.mid (pre := [u64V b.n]) (mid := H.cells b.h) (post := []) (by simpa [Head.cells] using (hO6.ext hw').cells); exact this) ?_
  (conv => whnf)
  refine CallP.does (prefix_ok wd a.n a.h b.n b.h v t ha hb w5 (hg.ext hE5) (hv.ext hE5) ht) ?_
  rintro r w6 ⟨rfl, hE6⟩
  (conv => whnf)
  (refine BarP.no ?_)
  refine ReqP.mk hE6 ?_
  have hO5 := hO5.ext hE6
  have hO6 := hO6.ext hE6
  have hE6 := hE5.trans hE6
  have hJ6 := hJ.ext hE6
  (conv => whnf)
  refine CmpP.split (fun h => ?_) (fun h => ?_)
  · have hne : linkE wd S a b t ≠ 0 := by rw [hL]; intro h0; simp [h0] at h
    (conv => whnf)
    rw [if_neg hne]
    exact ⟨by rw [hL], hJ6, .of_ext hE6⟩
  have h0 : linkE wd S a b t = 0 := by rw [hL]; simpa using h
  rw [if_pos h0, h0]
  (conv => whnf)
  refine GetP.lds tfHead (Head.len a) hO5.cells ?_
  (conv => whnf)
  refine GetP.lds tfHead (Head.len b) hO6.cells ?_
  (conv => whnf)
  refine GetP.buildS (places := [(0, 33), (33, 33)]) (zs := Link.cells zeroLink) (vals := [Head.val a, Head.val b]) (fun _ => by kernel_rfl) rfl (by simp [offs, Head.val, Value.cells, Head.len]) (by simp [cellsOf, Head.val, Value.cells, Head.len, Link.len]) ?_
  have hcc : cellsOf [Head.val a, Head.val b] ++ (Link.cells zeroLink).drop (cellsOf [Head.val a, Head.val b]).length = Link.cells ⟨a, b⟩ := by
    have : cellsOf [Head.val a, Head.val b] = Link.cells ⟨a, b⟩ := by simp [cellsOf, Head.val, Value.cells, Link.cells]
    rw [this, Link.len, List.drop_eq_nil_of_le (by rw [Link.len]; omega), List.append_nil]
  rw [hcc]
  (conv => whnf)
  refine RunP.new (z := Link.val zeroLink) Tryz.zeroValue90 ?_
  intro b10 w7 hb10 hO10 hE7
  have hs7 := hE7.size
  have hO10 : Own w7 b10 (Link.cells zeroLink) := by simpa [Link.val, Value.cells] using hO10
  (conv => whnf)
  refine DoP.sts0 tfLink hO10 (Link.len _) (Link.len _) (Link.one _) ?_
  intro w8 hO10 hU8
  have hE8 : Ext w6 w8 := hE7.upd hU8 hb10
  have hE8 := hE6.trans hE8
  (conv => whnf)
  refine draw_ext tyOk mixed (.q 0 (.q 1 (.q 2 (.q 3 (.q 4 (.q 5 (.q 6 (.q 7 (.q 8 (.q 9 (.q 10 (.done)))))))))))) (by kernel_rfl) ?_
  intro w9 hE9 hs9
  have hO10 := hO10.ext hE9
  have hE9 := hE8.trans hE9
  have hJ9 := hJ.ext hE9
  obtain ⟨vals, hM9, hV9⟩ := hJ9.links
  (conv => whnf)
  refine GetP.ldS tfLinkMap (v := .map (some bl)) (fun w' hw' => (hJ9.ext hw').atbl) ?_
  (conv => whnf)
  refine GetP.ldsS tfLink (Link.len ⟨a, b⟩) (fun w' hw' => (hO10.ext hw').cells) ?_
  (conv => whnf)
  refine GetP.lookup (l := vals) (z := .slice none 0 0) keyLink Tryz.underlying80 Tryz.zeroValue25 (fun w' hw' => hM9.ext hw') ⟨a, b⟩ ?_
  have hkeys := hV9.keys
  have hb' : (getA (⟨a, b⟩ : Link) vals).isSome = decide ((⟨a, b⟩ : Link) ∈ S.links.map (·.1)) := by rw [getA_mem, hkeys]
  rw [hb']
  (conv => whnf)
  (conv => whnf)
  by_cases hm : (⟨a, b⟩ : Link) ∈ S.links.map (·.1)
  · rw [decide_eq_true hm]
    (conv => whnf)
    refine ⟨rfl, ?_, .of_ext hE9⟩
    unfold addL
    rw [if_pos hm]
    exact hJ9
  rw [decide_eq_false hm]
  (conv => whnf)
  refine GetP.ld tfLinkMap (v := .map (some bl)) hJ9.atbl ?_
  (conv => whnf)
  have hvl : vals.length = S.links.length := by have := congrArg List.length hkeys; simpa using this
  refine GetP.lenMap (l := vals) Tryz.underlying80 (fun w' hw' => hw' ▸ hM9) ?_
  (conv => whnf)
  refine CmpP.no (by simp; omega) ?_
  (conv => whnf)
  refine draw_ext tyOk mixed (.q 0 (.q 1 (.q 2 (.q 3 (.q 4 (.q 5 (.e [(6, .e [(7, .done)])]))))))) (by kernel_rfl) ?_
  intro w10 hE10 hs10
  have hO10 := hO10.ext hE10
  have hE10 := hE9.trans hE10
  have hJ10 := hJ.ext hE10
  (conv => whnf)
  refine GetP.ldS tfLinkMap (v := .map (some bl)) (fun w' hw' => (hJ10.ext hw').atbl) ?_
  (conv => whnf)
  refine GetP.ldsS tfLink (Link.len ⟨a, b⟩) (fun w' hw' => (hO10.ext hw').cells) ?_
  (conv => whnf)
  refine CallP.does (cloneB_ok v t w10 (hv.ext hE10) ht) ?_
  rintro r w11 ⟨hG11, hE11⟩
  have hs11 := hE11.size
  (conv => whnf)
  (refine BarP.no ?_)
  refine ReqP.mk hE11 ?_
  have hE11' := hE11
  have hE11 := hE10.trans hE11
  have hJ11 := hJ10.ext hE11'
  obtain ⟨vals, hM11, hV11⟩ := hJ11.links
  (conv => whnf)
  refine DoP.mapUpdate (l := vals) keyLink Tryz.underlying80 hM11 ⟨a, b⟩ ?_
  intro w12 hM12 hU12
  (conv => whnf)
  (refine BarP.yes (by decide +kernel) ?_; (conv => whnf))
  refine ⟨rfl, ?_, (Upd.of_ext hE11).trans hU12⟩
  obtain ⟨n1, n2, n3⟩ := hJ.ne
  have hoff : ∀ x, inBlock r x → ¬ A x := fun x hx hA => by
    have := (hG11.block hx).1
    have := hJ10.lt x hA
    omega
  refine ⟨hJ11.own.upd hU12 n2, hJ11.heads.upd hU12 n3, ⟨_, hM12, ?_⟩, hJ.ne, hJ.inA, fun y hy => Nat.lt_of_lt_of_le (hJ11.lt y hy) hU12.size⟩
  show VRel _ _ (addL ⟨a, b⟩ t S.links)
  unfold addL
  rw [if_neg hm]
  refine VRel.mono (R := fun v t => Seq codByte w11 v t ∧ t.length < 1048576 ∧ ∀ x, inBlock v x → ¬ A x) (fun v' t' h => ⟨h.1.upd hU12 (fun hb => h.2.2 bl hb hJ11.inA.2.2), h.2⟩) (hV11.set (a := ⟨a, b⟩) (v := r) (b := t) ⟨hG11.seq, ht, hoff⟩)
end Go.Proofs.YtgeemplpgfiidaaGreatDoor.Mv
/- judge: Heads, Forks, Clash. -/
namespace Go.Proofs.YtgeemplpgfiidaaGreatDoor.Mv
open Go Go.RowKit Go.Proofs

theorem order_k3 (x y : Head) : orderF x y = 0 ↔ x.n = y.n ∧ kB x.h.1 = kB y.h.1 := by
  obtain ⟨h1, h2⟩ := cmpN_k x.n y.n
  obtain ⟨h3, h4, h5⟩ := compareB_k x.h.1 y.h.1 (by rw [x.h.2, y.h.2])
  unfold orderF orF
  by_cases h0 : cmpN x.n y.n = 0
  · rw [if_neg (by simpa using h0), h4, ← h5]
    have := h2.1 h0
    simp [this]
  · rw [if_pos h0]
    have h6 : x.n ≠ y.n := fun h => h0 (h2.2 h)
    simp [h6, h0]
theorem ordHead : OrdF orderF := by
  refine ⟨fun a b => ?_, fun a b c => ?_⟩
  · rw [(order_k a b).1, (order_k b a).1]; omega
  · rw [(order_k b a).1, (order_k c b).1, (order_k c a).1]; omega
theorem link_k (x y : Link) : linkF x y < 0 ↔ (x.b.n < y.b.n ∨ x.b.n = y.b.n ∧ (kB x.b.h.1 < kB y.b.h.1 ∨ kB x.b.h.1 = kB y.b.h.1 ∧ (x.a.n < y.a.n ∨ x.a.n = y.a.n ∧ kB x.a.h.1 < kB y.a.h.1))) := by
  have h1 := (order_k x.b y.b).1
  have h2 := order_k3 x.b y.b
  have h3 := (order_k x.a y.a).1
  unfold linkF orF
  by_cases h0 : orderF x.b y.b = 0
  · rw [if_neg (by simpa using h0), h3]
    have := h2.1 h0
    omega
  · rw [if_pos h0, h1]
    rw [h2] at h0
    omega
theorem ordLink : OrdF linkF := by
  refine ⟨fun a b => ?_, fun a b c => ?_⟩
  · rw [link_k, link_k]; omega
  · rw [link_k, link_k, link_k]; omega

theorem headKeys_ok (bh : Nat) (w : World) : Does Tryz.prog 61 [.map (some bh)] w (fun r w' => ∃ b1, r = .func (.func 113) #[] #[pt b1] ∧ Own w' b1 [.map (some bh)] ∧ Ext w w') := by
  (refine DoesX.of_vc tyOk Tryz.func61 rfl ⟨rfl, rfl⟩ rfl ?_; (conv => whnf))
  refine RunP.box ?_
  intro b1 w1 hb1 hO1 hE1
  (conv => whnf)
  exact ⟨b1, rfl, hO1, hE1⟩
theorem linkKeys_ok (bh : Nat) (w : World) : Does Tryz.prog 43 [.map (some bh)] w (fun r w' => ∃ b1, r = .func (.func 93) #[] #[pt b1] ∧ Own w' b1 [.map (some bh)] ∧ Ext w w') := by
  (refine DoesX.of_vc tyOk Tryz.func43 rfl ⟨rfl, rfl⟩ rfl ?_; (conv => whnf))
  refine RunP.box ?_
  intro b1 w1 hb1 hO1 hE1
  (conv => whnf)
  exact ⟨b1, rfl, hO1, hE1⟩

theorem sortedHeads_ok (F : Head → Head → Int) (hF : OrdF F) (cf : FuncId) (hcmp : ∀ x y w, Does Tryz.prog cf [Head.val x, Head.val y] w (fun r w' => r = .int .i64 (F x y) ∧ Ext w w')) (b1 bm : Nat) (l : List (Head × Value)) (w : World) (hn : l.length ≤ 12) (hO : Own w b1 [.map (some bm)]) (hM : MapAt Head.val w bm l) :
    Does Tryz.prog 60 [.func (.func 113) #[] #[pt b1], .func (.func cf) #[] #[]] w (fun r w' => ∃ l', l'.Perm (l.map (·.1)) ∧ SortedF F l' ∧ Grow codHead 29 w.heap.size w' r l' ∧ Ext w w') := by
  (refine DoesX.of_vc tyOk Tryz.func60 rfl ⟨rfl, rfl⟩ rfl ?_; (conv => whnf))
  refine CallP.does (HeadCollect_ok 113 [pt b1] (fun k => k = bm) l.length (KeysOf l) w (by omega) ⟨⟨_, Tryz.func113, rfl, rfl⟩⟩ (fun k hk => by subst hk; exact hM.lt) (fun w₂ hE => HeadKeys_iter b1 bm l (fun k => k = bm) rfl w₂ (by rw [(hO.ext hE).cell]; rfl) (hM.ext hE))) ?_
  rintro r w1 ⟨xs, hK, hG, hE1⟩
  have hlen : xs.length = l.length := by have := hK.length_eq; simpa using this
  (conv => whnf)
  refine CallP.does (HeadSort_ok F hF cf hcmp w.heap.size r xs w1 (by omega) hG hE1.size) ?_
  rintro r2 w2 ⟨l', hp, hs, hG2, hE2⟩
  (conv => whnf)
  exact ⟨l', hp.trans hK, hs, hG2, Below.trans hE1 hE2⟩
theorem sortedLinks_ok (F : Link → Link → Int) (hF : OrdF F) (cf : FuncId) (hcmp : ∀ x y w, Does Tryz.prog cf [Link.val x, Link.val y] w (fun r w' => r = .int .i64 (F x y) ∧ Ext w w')) (b1 bm : Nat) (l : List (Link × Value)) (w : World) (hn : l.length ≤ 12) (hO : Own w b1 [.map (some bm)]) (hM : MapAt Link.val w bm l) :
    Does Tryz.prog 42 [.func (.func 93) #[] #[pt b1], .func (.func cf) #[] #[]] w (fun r w' => ∃ l', l'.Perm (l.map (·.1)) ∧ SortedF F l' ∧ Grow codLink 90 w.heap.size w' r l' ∧ Ext w w') := by
  (refine DoesX.of_vc tyOk Tryz.func42 rfl ⟨rfl, rfl⟩ rfl ?_; (conv => whnf))
  refine CallP.does (LinkCollect_ok 93 [pt b1] (fun k => k = bm) l.length (KeysOf l) w (by omega) ⟨⟨_, Tryz.func93, rfl, rfl⟩⟩ (fun k hk => by subst hk; exact hM.lt) (fun w₂ hE => LinkKeys_iter b1 bm l (fun k => k = bm) rfl w₂ (by rw [(hO.ext hE).cell]; rfl) (hM.ext hE))) ?_
  rintro r w1 ⟨xs, hK, hG, hE1⟩
  have hlen : xs.length = l.length := by have := hK.length_eq; simpa using this
  (conv => whnf)
  refine CallP.does (LinkSort_ok F hF cf hcmp w.heap.size r xs w1 (by omega) hG hE1.size) ?_
  rintro r2 w2 ⟨l', hp, hs, hG2, hE2⟩
  (conv => whnf)
  exact ⟨l', hp.trans hK, hs, hG2, Below.trans hE1 hE2⟩

theorem heads_ok (wd : Int) (J bh bl : Nat) (A : Nat → Prop) (S : JudgeS) (w : World) (hJ : JudgeAt wd w J bh bl A S) (hn : S.heads.length ≤ 12) :
    Does Tryz.prog 21 [pt J] w (fun r w' => ∃ l', l'.Perm S.heads ∧ SortedF orderF l' ∧ Grow codHead 29 w.heap.size w' r l' ∧ Ext w w') := by
  (refine DoesX.of_vc tyOk Tryz.func21 rfl ⟨rfl, rfl⟩ rfl ?_; (conv => whnf))
  refine GetP.ld tfHeadMap (v := .map (some bh)) hJ.atbh ?_
  (conv => whnf)
  refine CallP.does (headKeys_ok bh w) ?_
  rintro r w1 ⟨b1, rfl, hO1, hE1⟩
  (conv => whnf)
  refine CallP.does (sortedHeads_ok orderF ordHead 46 order_ok b1 bh (S.heads.map fun h => (h, unitV)) w1 (by simpa using hn) hO1 (hJ.heads.ext hE1)) ?_
  rintro r w2 ⟨l', hp, hs, hG, hE2⟩
  (conv => whnf)
  exact ⟨l', by simpa [List.map_map, Function.comp_def] using hp, hs, hG.mono hE1.size, hE1.trans hE2⟩

/-! ### Forks -/
structure ForkT where
  n : Nat
  a : H
  b : H
  deriving DecidableEq
def ForkT.cells (x : ForkT) : List Value := u64V x.n :: (H.cells x.a ++ H.cells x.b)
theorem ForkT.len (x : ForkT) : (ForkT.cells x).length = 65 := by simp [ForkT.cells, H.len]
theorem ForkT.one (x : ForkT) : ∀ u ∈ ForkT.cells x, u.oneCell' = true := by
  intro u hu
  rcases List.mem_cons.1 hu with rfl | hu
  · rfl
  · rcases List.mem_append.1 hu with hu | hu
    · exact bytes_one _ u hu
    · exact bytes_one _ u hu
def ForkT.val (x : ForkT) : Value := .agg (ForkT.cells x).toArray
def codFork : Cod ForkT := { cells := ForkT.cells, size := 65, pos := by decide, len := ForkT.len, one := ForkT.one }
def zeroFork : ForkT := ⟨0, zeroH, zeroH⟩
theorem elFork : ElF Tryz.prog 38 103 codFork 72 := ⟨Tryz.underlying38, ⟨Tryz.t103, ForkT.val zeroFork, by kernel_rfl, by kernel_rfl, by kernel_rfl, by kernel_rfl, by kernel_rfl⟩⟩
theorem tfForkS : TyF Tryz.prog 38 false 1 := ⟨Tryz.isAgg38, Tryz.sizeOf38⟩

def forkT (a b : Head) : ForkT := ⟨a.n, a.h, b.h⟩
def forksOf (a : Head) (r : List Head) : List ForkT := (r.takeWhile fun b => decide (b.n = a.n)).map (forkT a)
def forksF : List Head → List ForkT
  | [] => []
  | a :: r => forksOf a r ++ forksF r
theorem forksOf_len (a : Head) (r : List Head) : (forksOf a r).length ≤ r.length := by
  unfold forksOf
  rw [List.length_map]
  exact (List.takeWhile_sublist _).length_le

theorem headN {w : World} {b o : Nat} {x : Head} (h : CellsAt w b o (Head.cells x)) : w.cell? ⟨b, o + 0, none⟩ = some (.int .u64 x.n) := h 0 (u64V x.n) rfl
theorem headH {w : World} {b o : Nat} {x : Head} (h : CellsAt w b o (Head.cells x)) : CellsAt w b (o + 1) (H.cells x.h) := CellsAt.mid (pre := [u64V x.n]) (mid := H.cells x.h) (post := []) (by simpa [Head.cells] using h)
theorem linkA {w : World} {b : Nat} {x : Link} (h : Own w b (Link.cells x)) : CellsAt w b (0 + 0) (Head.cells x.a) := Own.pre h
theorem linkB {w : World} {b : Nat} {x : Link} (h : Own w b (Link.cells x)) : CellsAt w b (0 + 33) (Head.cells x.b) := by
  have := Own.post (pre := Head.cells x.a) (post := Head.cells x.b) h
  rw [Head.len] at this
  exact this

theorem forks_ok (wd : Int) (J bh bl : Nat) (A : Nat → Prop) (S : JudgeS) (w : World) (hJ : JudgeAt wd w J bh bl A S) (hn : S.heads.length ≤ 12) :
    Does Tryz.prog 11 [pt J] w (fun r w' => ∃ l', l'.Perm S.heads ∧ SortedF orderF l' ∧ Grow codFork 103 w.heap.size w' r (forksF l') ∧ Ext w w') := by
  (refine DoesX.of_vc tyOk Tryz.func11 rfl ⟨rfl, rfl⟩ rfl ?_; (conv => whnf))
  refine CallP.does (heads_ok wd J bh bl A S w hJ hn) ?_
  rintro v w1 ⟨l', hp, hs, hG, hE1⟩
  have hlen : l'.length ≤ 12 := by rw [hp.length_eq]; exact hn
  have hs1 := hE1.size
  have hG := hG.seq
  (conv => whnf)
  refine GetP.lenS Tryz.runUnderlying50 hG ?_
  (conv => whnf)
  refine loop_only2 tyOk (fun (i : Nat) (u : Value) => [(3, v), (4, u), (11, v), (12, .int .i64 l'.length), (13, .int .i64 i)])
    (fun i u w' => i ≤ l'.length ∧ (∃ out, Grow codFork 103 w1.heap.size w' u out ∧ out ++ forksF (l'.drop i) = forksF l' ∧ out.length ≤ 12 * i) ∧ Ext w1 w') (fun i _ => l'.length - i) 0 (.slice none 0 0)
    (by repeat (first | exact trivial | refine ⟨rfl, ?_⟩)) ⟨Nat.zero_le _, ⟨[], Grow.nil _ _ _ _, rfl, by simp⟩, Ext.refl _⟩ ?_
  rintro i u w2 ⟨hi, ⟨out, hU, ho, hol⟩, hE2⟩
  have hs2 := hE2.size
  (conv => whnf)
  refine CmpP.split (fun h => ?_) (fun h => ?_)
  rotate_left
  · have h : i = l'.length := by simp at h; omega
    (conv => whnf)
    refine ⟨l', hp, hs, ?_, hE1.trans hE2⟩
    rw [h, List.drop_length, forksF, List.append_nil] at ho
    rw [← ho]
    exact hU.mono hs1
  have h : i < l'.length := by simp at h; omega
  (conv => whnf)
  refine GetP.idxS Tryz.runUnderlying50 Tryz.sizeOf29 (hG.ext hE2) (by omega) (by omega) ?_
  intro b16 o16 hc16
  (conv => whnf)
  refine GetP.lds tfHead (Head.len _) hc16 ?_
  simp only [Int.toNat_natCast]
  (conv => whnf)
  refine RunP.new (z := Head.val zeroHead) Tryz.zeroValue29 ?_
  intro b6 w3 hb6 hO6 hE3
  have hs3 := hE3.size
  have hO6 : Own w3 b6 (Head.cells zeroHead) := by simpa [Head.val, Value.cells] using hO6
  (conv => whnf)
  refine DoP.sts0 tfHead hO6 (Head.len _) (Head.len _) (Head.one _) ?_
  intro w4 hO6 hU4
  have hs4 := hU4.size
  have hE4 : Ext w2 w4 := hE3.upd hU4 hb6
  have hE4' := hE2.trans hE4
  have hl6 := hO6.lt
  (conv => whnf)
  (refine NumP.fit (by first | decide | (simp only [kmin]; omega)) (by first | decide | (simp only [kmax]; omega)) ?_; (conv => whnf))
  have e1 : ((i : Int) + 1) = ((i + 1 : Nat) : Int) := by omega
  rw [e1]
  refine GetP.subS (hG.ext hE4') Tryz.runUnderlying50 Tryz.sizeOf29 (i + 1) l'.length (.inr ⟨_, rfl⟩) (.inl ⟨rfl, rfl⟩) (by omega) (Nat.le_refl _) ?_
  intro v2 hS2 hv2b
  have hv2b : ∀ b, inBlock v2 b → b < w1.heap.size := fun b hb => hG.lt (hv2b b hb)
  rw [List.take_of_length_le (Nat.le_refl _)] at hS2
  (conv => whnf)
  refine GetP.lenS Tryz.runUnderlying50 hS2 ?_
  have hdl : (l'.drop (i + 1)).length = l'.length - (i + 1) := by simp
  (conv => whnf)
  have hcons : l'.drop i = l'[i] :: l'.drop (i + 1) := List.drop_eq_getElem_cons h
  have hfin : ∀ (u' : Value) (w' : World), Grow codFork 103 w1.heap.size w' u' (out ++ forksOf l'[i] (l'.drop (i + 1))) → Ext w1 w' →
      (i + 1 ≤ l'.length ∧ (∃ out, Grow codFork 103 w1.heap.size w' u' out ∧ out ++ forksF (l'.drop (i + 1)) = forksF l' ∧ out.length ≤ 12 * (i + 1)) ∧ Ext w1 w') := fun u' w' hg he => by
    refine ⟨by omega, ⟨_, hg, ?_, ?_⟩, he⟩
    · rw [← ho, hcons, forksF, List.append_assoc]
    · have := forksOf_len l'[i] (l'.drop (i + 1))
      rw [List.length_append]
      omega
  refine loop_only2 tyOk (fun (k : Nat) (u : Value) => [(3, v), (4, u), (6, pt b6), (11, v), (12, .int .i64 l'.length), (13, .int .i64 i), (21, v2), (22, .int .i64 (l'.drop (i + 1)).length), (23, .int .i64 k)])
    (fun k u w' => k ≤ (l'.drop (i + 1)).length ∧ (Own w' b6 (Head.cells l'[i]) ∧ Grow codFork 103 w1.heap.size w' u (out ++ ((l'.drop (i + 1)).take k).map (forkT l'[i])) ∧ ((l'.drop (i + 1)).takeWhile fun b => decide (b.n = l'[i].n)) = (l'.drop (i + 1)).take k ++ ((l'.drop (i + 1)).drop k).takeWhile fun b => decide (b.n = l'[i].n)) ∧ (∀ b, inBlock u b → b ≠ b6) ∧ Ext w1 w' ∧ w4.heap.size ≤ w'.heap.size ∧ Seq codHead w' v2 (l'.drop (i + 1))) (fun k _ => (l'.drop (i + 1)).length - k) 0 u
    (by repeat (first | exact trivial | refine ⟨rfl, ?_⟩)) ⟨Nat.zero_le _, ⟨hO6, by simpa using (hU.ext hE4), by simp⟩, fun b hb => by have := (hU.block hb).2; omega, hE4', Nat.le_refl _, hS2⟩ ?_
  rintro k u' w5 ⟨hk, ⟨hO6, hU5, htw⟩, hne5, hE5, hs5, hS5⟩
  have hs51 := hE5.size
  (conv => whnf)
  refine CmpP.split (fun h2 => ?_) (fun h2 => ?_)
  rotate_left
  · have h2 : k = (l'.drop (i + 1)).length := by simp at h2; simp; omega
    (conv => whnf)
    (refine NumP.fit (by first | decide | (simp only [kmin]; omega)) (by first | decide | (simp only [kmax]; omega)) ?_; (conv => whnf))
    refine ⟨i + 1, u', (by repeat (first | exact trivial | refine ⟨rfl, ?_⟩)), hfin u' w5 ?_ hE5, by omega⟩
    unfold forksOf
    rw [htw, h2, List.drop_length]
    simpa [h2] using hU5
  have h2 : k < (l'.drop (i + 1)).length := by simp at h2; simp; omega
  (conv => whnf)
  refine GetP.idxS Tryz.runUnderlying50 Tryz.sizeOf29 hS5 (by omega) (by omega) ?_
  intro b25 o25 hc25
  simp only [Int.toNat_natCast] at hc25
  generalize hy : (l'.drop (i + 1))[k] = y at hc25
  (conv => whnf)
  refine GetP.lds tfHead (Head.len y) hc25 ?_
  (conv => whnf)
  refine RunP.new (z := Head.val zeroHead) Tryz.zeroValue29 ?_
  intro b8 w6 hb8 hO8 hE6
  have hs6 := hE6.size
  have hO8 : Own w6 b8 (Head.cells zeroHead) := by simpa [Head.val, Value.cells] using hO8
  (conv => whnf)
  refine DoP.sts0 tfHead hO8 (Head.len y) (Head.len _) (Head.one y) ?_
  intro w7 hO8 hU7
  have hs7 := hU7.size
  have hE7 : Ext w5 w7 := hE6.upd hU7 hb8
  have hO6 := hO6.ext hE7
  (conv => whnf)
  refine GetP.ld tfU64 (v := .int .u64 y.n) (headN hO8.cells) ?_
  (conv => whnf)
  refine GetP.ld tfU64 (v := .int .u64 l'[i].n) (headN hO6.cells) ?_
  have hdc : (l'.drop (i + 1)).drop k = y :: (l'.drop (i + 1)).drop (k + 1) := by rw [← hy]; exact List.drop_eq_getElem_cons h2
  (conv => whnf)
  refine CmpP.split (fun h3 => ?_) (fun h3 => ?_)
  · have h3 : y.n ≠ l'[i].n := by intro e; simp [e] at h3
    (conv => whnf)
    (refine NumP.fit (by first | decide | (simp only [kmin]; omega)) (by first | decide | (simp only [kmax]; omega)) ?_; (conv => whnf))
    refine ⟨i + 1, u', (by repeat (first | exact trivial | refine ⟨rfl, ?_⟩)), hfin u' w7 ?_ (hE5.trans hE7), by omega⟩
    unfold forksOf
    rw [htw, hdc, List.takeWhile_cons_of_neg (by simpa using h3), List.append_nil]
    exact hU5.ext hE7
  have h3 : y.n = l'[i].n := by simp at h3; omega
  (conv => whnf)
  refine GetP.ld tfU64 (v := .int .u64 l'[i].n) (headN hO6.cells) ?_
  (conv => whnf)
  refine GetP.lds tfHash (H.len l'[i].h) (headH hO6.cells) ?_
  (conv => whnf)
  refine GetP.lds tfHash (H.len y.h) (headH hO8.cells) ?_
  (conv => whnf)
  refine GetP.buildS (places := [(0, 1), (1, 32), (33, 32)]) (zs := ForkT.cells zeroFork) (vals := [u64V l'[i].n, H.val l'[i].h, H.val y.h]) (fun _ => by kernel_rfl) rfl (by simp [offs, H.val, u64V, Value.cells, H.len]) (by simp [cellsOf, H.val, u64V, Value.cells, H.len, ForkT.len]) ?_
  have hcc : cellsOf [u64V l'[i].n, H.val l'[i].h, H.val y.h] ++ (ForkT.cells zeroFork).drop (cellsOf [u64V l'[i].n, H.val l'[i].h, H.val y.h]).length = ForkT.cells (forkT l'[i] y) := by
    have : cellsOf [u64V l'[i].n, H.val l'[i].h, H.val y.h] = ForkT.cells (forkT l'[i] y) := by simp [cellsOf, H.val, u64V, Value.cells, ForkT.cells, forkT]
    rw [this, ForkT.len, List.drop_eq_nil_of_le (by rw [ForkT.len]; omega), List.append_nil]
  rw [hcc]
  (conv => whnf)
  refine RunP.slice1 (C := codFork) (a := forkT l'[i] y) Tryz.runUnderlying38 Tryz.sizeOf103 Tryz.zeroValue103 (ForkT.len zeroFork) rfl (by decide) ?_
  intro b40 w8 hb40 hO40 hE8 hq8
  have hs8 := hE8.size
  have hU8 := (hU5.ext hE7).ext hE8
  (conv => whnf)
  have holen : out.length ≤ 144 := by omega
  have htk : ((l'.drop (i + 1)).take k).length ≤ 12 := by simp; omega
  refine RunP.appendX elFork hU8 hq8 (by simp only [maxLen, List.length_append, List.length_map, List.length_cons, List.length_nil]; omega) (by simp only [List.length_append, List.length_map, List.length_cons, List.length_nil]; omega) (by omega) ?_
  intro u2 w9 hU9 hgr hin
  have hs9 := hgr.size
  have hB9 := hU8.grown_below hgr (by omega)
  (conv => whnf)
  (refine NumP.fit (by first | decide | (simp only [kmin]; omega)) (by first | decide | (simp only [kmax]; omega)) ?_; (conv => whnf))
  have hE9 : Ext w1 w9 := Below.trans ((hE5.trans hE7).trans hE8) hB9
  have n6 : ¬ inBlock u' b6 := fun h => hne5 b6 h rfl
  have hin9 : ∀ b, inBlock u2 b → b ≠ b6 := fun b hb e => by
    subst e
    rcases hin b hb with h | h
    · exact n6 h
    · have := hO6.lt; omega
  have hv2 : Seq codHead w9 v2 (l'.drop (i + 1)) := by
    have : Seq codHead w8 v2 (l'.drop (i + 1)) := (hS5.ext hE7).ext hE8
    rcases this with hq | ⟨bq, oq, cq, rfl, hcq, hbq, hcells⟩
    · exact .inl hq
    · refine .inr ⟨bq, oq, cq, rfl, hcq, Nat.lt_of_lt_of_le hbq hs9, fun j x hx => ?_⟩
      exact (World.cell?_of_block (hB9.block bq (hv2b bq ⟨_, _, _, rfl⟩))).trans (hcells j x hx)
  refine ⟨k + 1, u2, (by repeat (first | exact trivial | refine ⟨rfl, ?_⟩)), ⟨by omega, ⟨(hO6.ext hE8).kept hU8 hgr n6, ?_, ?_⟩, hin9, hE9, by omega, hv2⟩, by omega⟩
  · rw [List.take_succ_eq_append_getElem h2, hy, List.map_append, ← List.append_assoc]
    simpa using hU9
  · rw [htw, hdc, List.takeWhile_cons_of_pos (by simpa using h3), List.take_succ_eq_append_getElem h2, hy, List.append_assoc]
    rfl
end Go.Proofs.YtgeemplpgfiidaaGreatDoor.Mv
/- judge: Clash. -/
namespace Go.Proofs.YtgeemplpgfiidaaGreatDoor.Mv
open Go Go.RowKit Go.Proofs

/-- The first two neighbours that lead to one head from one size. -/
def clashP : List Link → Option (Link × Link)
  | a :: b :: r => if a.b = b.b ∧ a.a.n = b.a.n then some (a, b) else clashP (b :: r)
  | _ => none
def textOf (S : JudgeS) (x : Link) : List UInt8 := (getA x S.links).getD []
def clashQ (wd : Int) (S : JudgeS) (l : List Link) : Bool :=
  match clashP l with
  | none => false
  | some (a, b) => forkB wd a.a.n a.a.h b.a.h a.b.n a.b.h (textOf S a) (textOf S b)
def clashT (wd : Int) (S : JudgeS) (l : List Link) : Option (List UInt8 × List UInt8) :=
  match clashP l with
  | none => none
  | some (a, b) => (forkS wd a.a.n a.b.n (textOf S a) (textOf S b)).found
theorem clashP_mem {a b : Link} : ∀ {l : List Link}, clashP l = some (a, b) → a ∈ l ∧ b ∈ l
  | [], h => by cases h
  | [_], h => by cases h
  | x :: y :: r, h => by
    simp only [clashP] at h
    split at h
    · cases h; simp
    · obtain ⟨h1, h2⟩ := clashP_mem h
      exact ⟨List.mem_cons_of_mem _ h1, List.mem_cons_of_mem _ h2⟩

theorem textOf_at {wd : Int} {w : World} {J bh bl : Nat} {A : Nat → Prop} {S : JudgeS} (vals : List (Link × Value)) (hV : VRel (fun v t => Seq codByte w v t ∧ t.length < 1048576 ∧ ∀ x, inBlock v x → ¬ A x) vals S.links) (x : Link) :
    Seq codByte w ((getA x vals).getD (.slice none 0 0)) (textOf S x) ∧ (textOf S x).length < 1048576 := by
  unfold textOf
  rcases hV.get (a := x) with ⟨h1, h2⟩ | ⟨v, t, h1, h2, h3⟩
  · rw [h1, h2]; exact ⟨Seq.nil _ _, by simp⟩
  · rw [h1, h2]; exact ⟨h3.1, h3.2.1⟩

theorem clash_ok (wd : Int) (J bh bl : Nat) (A : Nat → Prop) (S : JudgeS) (w : World) (hg : Glob w) (hJ : JudgeAt wd w J bh bl A S) (hn : S.links.length ≤ 12) (hsz : ∀ p ∈ S.links, p.1.a.n < 18446744073709551616 ∧ p.1.b.n < 18446744073709551616) :
    Does Tryz.prog 10 [pt J] w (fun x w' => ∃ l', l'.Perm (S.links.map (·.1)) ∧ SortedF linkF l' ∧ (∃ va vb, x = .tuple #[.agg #[va, vb], .bool (clashQ wd S l')] ∧ va.oneCell' = true ∧ vb.oneCell' = true ∧
      (clashQ wd S l' = true → Seq codByte w' va (((clashT wd S l').map (·.1)).getD []) ∧ Seq codByte w' vb (((clashT wd S l').map (·.2)).getD []))) ∧ Ext w w') := by
  (refine DoesX.of_vc tyOk Tryz.func10 rfl ⟨rfl, rfl⟩ rfl ?_; (conv => whnf))
  refine RunP.new (z := .agg #[.slice none 0 0, .slice none 0 0]) Tryz.zeroValue35 ?_
  intro b2 w1 hb2 hO2 hE1
  have hO2 : Own w1 b2 [.slice none 0 0, .slice none 0 0] := hO2
  have hs1 := hE1.size
  have hl2 := hO2.lt
  (conv => whnf)
  refine GetP.ld tfLinkMap (v := .map (some bl)) (hJ.ext hE1).atbl ?_
  (conv => whnf)
  refine CallP.does (linkKeys_ok bl w1) ?_
  rintro r w2 ⟨b1, rfl, hO1, hE2⟩
  have hO2 := hO2.ext hE2
  have hs2 := hE2.size
  have hE2 := hE1.trans hE2
  obtain ⟨vals, hM2, hV2⟩ := (hJ.ext hE2).links
  have hvk := hV2.keys
  have hvl : vals.length = S.links.length := by have := congrArg List.length hvk; simpa using this
  (conv => whnf)
  refine CallP.does (sortedLinks_ok linkF ordLink 44 linkOrder_ok b1 bl vals w2 (by omega) hO1 hM2) ?_
  rintro v w3 ⟨l', hp, hs, hG, hE3⟩
  rw [hvk] at hp
  have hlen : l'.length ≤ 12 := by have := hp.length_eq; simp at this; omega
  have hO2 := hO2.ext hE3
  have hs3 := hE3.size
  have hE3 := hE2.trans hE3
  have hG := hG.seq
  (conv => whnf)
  refine loop_only tyOk (σ := Nat) (fun i => [(0, pt J), (2, pt b2), (4, v), (5, .int .i64 i)])
    (fun i w' => 1 ≤ i ∧ i ≤ 13 ∧ Own w' b2 [.slice none 0 0, .slice none 0 0] ∧ clashP l' = clashP (l'.drop (i - 1)) ∧ Ext w3 w') (fun i => 13 - i) 1
    (by repeat (first | exact trivial | refine ⟨rfl, ?_⟩)) ⟨Nat.le_refl _, by omega, hO2, by simp, Ext.refl _⟩ ?_
  rintro i w4 ⟨hi1, hi, hO2, hcl, hE4⟩
  have hs4 := hE4.size
  have hG := hG.ext hE4
  have hE34 := hE4
  have hE4 := hE3.trans hE4
  (conv => whnf)
  refine GetP.lenS Tryz.runUnderlying93 hG ?_
  (conv => whnf)
  refine CmpP.split (fun h => ?_) (fun h => ?_)
  rotate_left
  · have h : l'.length ≤ i := by simp at h; omega
    have hnone : clashP l' = none := by
      rw [hcl]
      have : (l'.drop (i - 1)).length ≤ 1 := by simp; omega
      match hd : l'.drop (i - 1), this with
      | [], _ => rfl
      | [_], _ => rfl
      | _ :: _ :: _, h => simp at h
    have hq : clashQ wd S l' = false := by unfold clashQ; rw [hnone]
    (conv => whnf)
    refine GetP.build (cells := #[.slice none 0 0, .slice none 0 0]) (by kernel_rfl) ?_
    (conv => whnf)
    refine DoP.sts0 tfClash (vs := [.slice none 0 0, .slice none 0 0]) hO2 rfl rfl (by intro u hu; simp at hu; rcases hu with rfl | rfl <;> rfl) ?_
    intro w5 hO5 hU5
    (conv => whnf)
    refine GetP.ress tfClash rfl hO5.cells ?_
    (conv => whnf)
    exact ⟨l', hp, hs, ⟨_, _, by rw [hq], rfl, rfl, fun h => by rw [hq] at h; cases h⟩, hE4.upd hU5 hb2⟩
  have h : i < l'.length := by simp at h; omega
  have e1 : ((i : Int) - 1) = ((i - 1 : Nat) : Int) := by omega
  have hcons : l'.drop (i - 1) = l'[i - 1] :: l'[i] :: l'.drop (i + 1) := by
    rw [List.drop_eq_getElem_cons (show i - 1 < l'.length by omega), show i - 1 + 1 = i by omega, List.drop_eq_getElem_cons h]
  have hma : l'[i - 1] ∈ l' := List.getElem_mem _
  have hmb : l'[i] ∈ l' := List.getElem_mem _
  generalize hx : l'[i - 1] = a at hcons hma
  generalize hy : l'[i] = b at hcons hmb
  (conv => whnf)
  refine draw_ext tyOk mixed (.q 0 (.q 1 (.q 2 (.q 3 (.q 4 (.q 5 (.q 6 (.q 7 (.q 8 (.e [(9, .e [(10, .e [(11, .e [(12, .done)])])]), (10, .e [(9, .e [(11, .e [(12, .done)])])])])))))))))) (by kernel_rfl) ?_
  intro w5 hE5 hs5
  have hO2 := hO2.ext hE5
  have hG5 := hG.ext hE5
  have hE35 := hE34.trans hE5
  have hE5 := hE4.trans hE5
  (conv => whnf)
  (refine NumP.fit (by first | decide | (simp only [kmin]; omega)) (by first | decide | (simp only [kmax]; omega)) ?_; (conv => whnf))
  rw [e1]
  (conv => whnf)
  obtain ⟨bs, os, cs, hvb, hvc, hvl', hcells⟩ : ∃ bs os cs, v = .slice (some ⟨bs, os, none⟩) l'.length cs ∧ l'.length ≤ cs ∧ bs < w5.heap.size ∧ CellsAt w5 bs os (codLink.all l') := by
    rcases hG5 with ⟨_, h0⟩ | h0
    · rw [h0] at h; simp at h
    · exact h0
  subst hvb
  have cellsOf' : ∀ q (hq : q < l'.length), CellsAt w5 bs (os + q * 66) (Link.cells l'[q]) := fun q hq => by
    rw [codLink.split hq] at hcells
    have := hcells.mid
    rw [codLink.all_len, List.length_take, Nat.min_eq_left (Nat.le_of_lt hq)] at this
    exact this
  refine GetP.idxO (i := i - 1) Tryz.runUnderlying93 Tryz.sizeOf90 (by omega) ?_
  (conv => whnf)
  refine GetP.ldsS tfLink (Link.len a) (fun w' hw' => by have := (cellsOf' (i - 1) (by omega)).ext hw'; rw [hx] at this; exact this) ?_
  (conv => whnf)
  refine GetP.idxO (i := i) Tryz.runUnderlying93 Tryz.sizeOf90 (by omega) ?_
  (conv => whnf)
  refine GetP.ldsS tfLink (Link.len b) (fun w' hw' => by have := (cellsOf' i h).ext hw'; rw [hy] at this; exact this) ?_
  (conv => whnf)
  refine ⟨?l, ?r⟩
  case' l =>
    refine RunP.new (z := Link.val zeroLink) Tryz.zeroValue90 ?_
    intro b6 w6 hb6 hO6 hE6
    have hO6 : Own w6 b6 (Link.cells zeroLink) := by simpa [Link.val, Value.cells] using hO6
    have hl6 := hO6.lt
    (conv => whnf)
    (refine BarP.no ?_)
    refine ReqP.mk hE6 ?_
    (conv => whnf)
    refine RunP.new (z := Link.val zeroLink) Tryz.zeroValue90 ?_
    intro b7 w7 hb7 hO7 hE7
    have hO7 : Own w7 b7 (Link.cells zeroLink) := by simpa [Link.val, Value.cells] using hO7
    have hne67 : b6 ≠ b7 := by omega
    have hb7 : w5.heap.size ≤ b7 := by have := hE6.size; omega
    have hO6 := hO6.ext hE7
    have hE7 := hE6.trans hE7
    (conv => whnf)
    (refine BarP.no ?_)
    refine ReqP.mk hE7 ?_
    (conv => whnf)
  case' r =>
    refine RunP.new (z := Link.val zeroLink) Tryz.zeroValue90 ?_
    intro b7 w6 hb7 hO7 hE6
    have hO7 : Own w6 b7 (Link.cells zeroLink) := by simpa [Link.val, Value.cells] using hO7
    have hl7 := hO7.lt
    (conv => whnf)
    (refine BarP.no ?_)
    refine ReqP.mk hE6 ?_
    (conv => whnf)
    refine RunP.new (z := Link.val zeroLink) Tryz.zeroValue90 ?_
    intro b6 w7 hb6 hO6 hE7
    have hO6 : Own w7 b6 (Link.cells zeroLink) := by simpa [Link.val, Value.cells] using hO6
    have hne67 : b6 ≠ b7 := by omega
    have hb6 : w5.heap.size ≤ b6 := by have := hE6.size; omega
    have hO7 := hO7.ext hE7
    have hE7 := hE6.trans hE7
    (conv => whnf)
    (refine BarP.no ?_)
    refine ReqP.mk hE7 ?_
    (conv => whnf)
  all_goals
    refine DoP.sts0 tfLink hO6 (Link.len a) (Link.len _) (Link.one a) ?_
    intro w8 hO6 hU8
    have hO7 := hO7.upd hU8 (Ne.symm hne67)
    have hE8 : Ext w5 w8 := hE7.upd hU8 hb6
    (conv => whnf)
    (refine BarP.no ?_)
    refine ReqP.mk hE8 ?_
    (conv => whnf)
    refine DoP.sts0 tfLink hO7 (Link.len b) (Link.len _) (Link.one b) ?_
    intro w9 hO7 hU9
    have hO6 := hO6.upd hU9 hne67
    have hE9 : Ext w5 w9 := hE8.upd hU9 hb7
    have hO2 := hO2.ext hE9
    (conv => whnf)
    (refine BarP.no ?_)
    refine ReqP.mk hE9 ?_
    have hE9' := hE9
    have hE9 := hE5.trans hE9
    (conv => whnf)
    refine GetP.lds tfHead (Head.len a.b) (linkB hO6) ?_
    (conv => whnf)
    refine GetP.lds tfHead (Head.len b.b) (linkB hO7) ?_
    (conv => whnf)
    refine EqP.eql (val := Head.val) (cs := Head.cells) eqHead (by omega) Tryz.eqGuardType29 (fun _ => rfl) a.b b.b ?_
    have next : ¬ (a.b = b.b ∧ a.a.n = b.a.n) → (1 ≤ i + 1 ∧ i + 1 ≤ 13 ∧ Own w9 b2 [.slice none 0 0, .slice none 0 0] ∧ clashP l' = clashP (l'.drop (i + 1 - 1)) ∧ Ext w3 w9) := fun hno => by
      refine ⟨by omega, by omega, hO2, ?_, hE35.trans hE9'⟩
      rw [hcl, hcons, clashP, if_neg hno, show i + 1 - 1 = i by omega, List.drop_eq_getElem_cons h, hy]
    by_cases hbb : a.b = b.b
    rotate_left
    · refine CmpP.of false (by simp [hbb]) ?_
      (conv => whnf)
      (refine NumP.fit (by first | decide | (simp only [kmin]; omega)) (by first | decide | (simp only [kmax]; omega)) ?_; (conv => whnf))
      exact ⟨i + 1, (by repeat (first | exact trivial | refine ⟨rfl, ?_⟩)), next (fun h => hbb h.1), by omega⟩
    refine CmpP.of true (by simp [hbb]) ?_
    (conv => whnf)
    refine GetP.ld tfU64 (v := .int .u64 a.a.n) (headN (linkA hO6)) ?_
    (conv => whnf)
    refine GetP.ld tfU64 (v := .int .u64 b.a.n) (headN (linkA hO7)) ?_
    (conv => whnf)
    refine CmpP.split (fun h3 => ?_) (fun h3 => ?_)
    rotate_left
    · have h3 : a.a.n ≠ b.a.n := by intro e; simp [e] at h3
      (conv => whnf)
      (refine NumP.fit (by first | decide | (simp only [kmin]; omega)) (by first | decide | (simp only [kmax]; omega)) ?_; (conv => whnf))
      exact ⟨i + 1, (by repeat (first | exact trivial | refine ⟨rfl, ?_⟩)), next (fun h => h3 h.2), by omega⟩
    have h3 : a.a.n = b.a.n := by simp at h3; omega
    have hclp : clashP l' = some (a, b) := by rw [hcl, hcons, clashP, if_pos ⟨hbb, h3⟩]
    (conv => whnf)
    refine draw_ext tyOk mixed (.q 0 (.q 1 (.q 2 (.q 3 (.q 4 (.q 5 (.q 6 (.q 7 (.q 8 (.q 9 (.q 10 (.q 11 (.q 12 (.q 13 (.q 14 (.q 15 (.q 16 (.q 17 (.q 18 (.q 19 (.q 20 (.q 21 (.q 22 (.q 23 (.q 24 (.q 25 (.q 26 (.q 27 (.q 28 (.q 29 (.q 30 (.e [(31, .q 32 (.q 33 (.e [(34, .e [(35, .done)])])))])))))))))))))))))))))))))))))))) (by kernel_rfl) ?_
    intro w10 hE10 hs10
    have hO2 := hO2.ext hE10
    have hlt := hO2.lt
    have hO6 := hO6.ext hE10
    have hO7 := hO7.ext hE10
    have hE10 := hE9.trans hE10
    have hJ10 := hJ.ext hE10
    obtain ⟨vals, hM10, hV10⟩ := hJ10.links
    (conv => whnf)
    refine GetP.ldS tfInt (v := .int .i64 wd) (fun w' hw' => (hJ10.ext hw').atwd) ?_
    (conv => whnf)
    refine GetP.ldS tfU64 (v := .int .u64 a.a.n) (fun w' hw' => headN (linkA (hO6.ext hw'))) ?_
    (conv => whnf)
    refine GetP.ldsS tfHash (H.len a.a.h) (fun w' hw' => headH (linkA (hO6.ext hw'))) ?_
    (conv => whnf)
    refine GetP.ldsS tfHash (H.len b.a.h) (fun w' hw' => headH (linkA (hO7.ext hw'))) ?_
    (conv => whnf)
    refine GetP.ldS tfU64 (v := .int .u64 a.b.n) (fun w' hw' => headN (linkB (hO6.ext hw'))) ?_
    (conv => whnf)
    refine GetP.ldsS tfHash (H.len a.b.h) (fun w' hw' => headH (linkB (hO6.ext hw'))) ?_
    (conv => whnf)
    refine GetP.ldS tfLinkMap (v := .map (some bl)) (fun w' hw' => (hJ10.ext hw').atbl) ?_
    (conv => whnf)
    refine GetP.ldsS tfLink (Link.len a) (fun w' hw' => (hO6.ext hw').cells) ?_
    (conv => whnf)
    refine GetP.lookup (l := vals) (z := .slice none 0 0) keyLink Tryz.underlying80 Tryz.zeroValue25 (fun w' hw' => hM10.ext hw') a ?_
    (conv => whnf)
    refine GetP.ldS tfLinkMap (v := .map (some bl)) (fun w' hw' => (hJ10.ext hw').atbl) ?_
    (conv => whnf)
    refine GetP.ldsS tfLink (Link.len b) (fun w' hw' => (hO7.ext hw').cells) ?_
    (conv => whnf)
    refine GetP.lookup (l := vals) (z := .slice none 0 0) keyLink Tryz.underlying80 Tryz.zeroValue25 (fun w' hw' => hM10.ext hw') b ?_
    obtain ⟨ta1, ta2⟩ := textOf_at (wd := wd) (J := J) (bh := bh) (bl := bl) vals hV10 a
    obtain ⟨tb1, tb2⟩ := textOf_at (wd := wd) (J := J) (bh := bh) (bl := bl) vals hV10 b
    have hma' : a ∈ S.links.map (·.1) := hp.mem_iff.1 hma
    obtain ⟨pa, hpa, hpe⟩ := List.mem_map.1 hma'
    have hza := hsz pa hpa
    rw [hpe] at hza
    (conv => whnf)
    refine CallP.does (fork_ok wd a.a.n a.a.h b.a.h a.b.n a.b.h _ _ (textOf S a) (textOf S b) hza.1 hza.2 ta2 tb2 w10 (hg.ext hE10) ta1 tb1) ?_
    rintro r w11 ⟨va, vb, rfl, g1, g2, g3, hE11⟩
    have hs11 := hE11.size
    have hO2 := hO2.ext hE11
    (conv => whnf)
    (refine BarP.no ?_)
    refine ReqP.mk hE11 ?_
    have hE11 := hE10.trans hE11
    (conv => whnf)
    refine DoP.sts0 tfClash (vs := [va, vb]) hO2 rfl rfl (by intro u hu; simp at hu; rcases hu with rfl | rfl <;> assumption) ?_
    intro w12 hO12 hU12
    (conv => whnf)
    (refine BarP.yes (by decide +kernel) ?_; (conv => whnf))
    (refine BarP.yes (by decide +kernel) ?_; (conv => whnf))
    refine GetP.ress tfClash rfl hO12.cells ?_
    (conv => whnf)
    have hq : clashQ wd S l' = forkB wd a.a.n a.a.h b.a.h a.b.n a.b.h (textOf S a) (textOf S b) := by unfold clashQ; rw [hclp]
    have ht : clashT wd S l' = (forkS wd a.a.n a.b.n (textOf S a) (textOf S b)).found := by unfold clashT; rw [hclp]
    refine ⟨l', hp, hs, ⟨va, vb, by rw [hq], g1, g2, fun h => ?_⟩, hE11.upd hU12 hb2⟩
    rw [hq] at h
    obtain ⟨e1, e2, e3, e4⟩ := g3 h
    rw [ht]
    exact ⟨e1.upd hU12 (fun hb => by have := e3 _ hb; omega), e2.upd hU12 (fun hb => by have := e4 _ hb; omega)⟩
end Go.Proofs.YtgeemplpgfiidaaGreatDoor.Mv
/- judge: Leads. -/
namespace Go.Proofs.YtgeemplpgfiidaaGreatDoor.Mv
open Go Go.RowKit Go.Proofs

/-! ### The plain law -/
inductive LeadsTo (L : List Link) : Head → Head → Prop
  | refl (a : Head) : LeadsTo L a a
  | step {a b c : Head} : LeadsTo L a b → ⟨b, c⟩ ∈ L → LeadsTo L a c
theorem LeadsTo.closed {L : List Link} {a b : Head} {D : List Head} (h : LeadsTo L a b) (ha : a ∈ D) (hD : ∀ d ∈ D, ∀ y, (⟨d, y⟩ : Link) ∈ L → y ∈ D) : b ∈ D := by
  induction h with
  | refl => exact ha
  | step h1 h2 ih => exact hD _ ih _ h2
/-- What is led to and was not come to yet. -/
def newL (L : List Link) (D : List Head) : Nat := (L.filter fun x => decide (x.b ∉ D)).length
theorem newL_le (L : List Link) (D : List Head) : newL L D ≤ L.length := List.length_filter_le _ _
theorem newL_add {L : List Link} {D : List Head} {x : Link} (hx : x ∈ L) (hD : x.b ∉ D) : newL L (D ++ [x.b]) + 1 ≤ newL L D := by
  unfold newL
  induction L with
  | nil => cases hx
  | cons p r ih =>
    simp only [List.filter_cons]
    have hle : (r.filter fun z => decide (z.b ∉ D ++ [x.b])).length ≤ (r.filter fun z => decide (z.b ∉ D)).length := by
      rw [← List.countP_eq_length_filter, ← List.countP_eq_length_filter]
      exact List.countP_mono_left fun z _ hz => by simp at hz ⊢; exact hz.1
    rcases List.mem_cons.1 hx with rfl | hx
    · rw [if_neg (by simp), if_pos (by simpa using hD)]
      simp only [List.length_cons]
      omega
    · have ih := ih hx
      by_cases h1 : p.b ∈ D
      · rw [if_neg (by simp [h1]), if_neg (by simp [h1])]
        exact ih
      · by_cases h2 : p.b = x.b
        · rw [if_neg (by simp [h2]), if_pos (by simpa using h1)]
          simp only [List.length_cons]
          omega
        · rw [if_pos (by simp [h1, h2]), if_pos (by simpa using h1)]
          simp only [List.length_cons]
          omega

/-! ### Maps of lists -/
def getL (h : Head) (af : List (Head × List Head)) : List Head := (getA h af).getD []
section
variable {α β : Type}
theorem VRel.on {R R' : Value → β → Prop} : ∀ {r : List (α × Value)} {s : List (α × β)}, VRel R r s → (∀ p ∈ r, ∀ y, R p.2 y → R' p.2 y) → VRel R' r s
  | [], [], _, _ => trivial
  | p :: _, q :: _, H, h => ⟨H.1, h p List.mem_cons_self _ H.2.1, VRel.on H.2.2 fun p hp => h p (List.mem_cons_of_mem _ hp)⟩
  | [], _ :: _, H, _ => H.elim
  | _ :: _, [], H, _ => H.elim
variable [DecidableEq α]
theorem mem_of_getA {a : α} {v : β} : ∀ {l : List (α × β)}, getA a l = some v → (a, v) ∈ l
  | [], h => by cases h
  | p :: r, h => by
    simp only [getA] at h
    split at h
    · rename_i he
      cases h
      subst he
      exact List.mem_cons_self
    · exact List.mem_cons_of_mem _ (mem_of_getA h)
theorem mem_setA {a : α} {v : β} {p : α × β} : ∀ {l : List (α × β)}, (l.map (·.1)).Nodup → p ∈ setA a v l → p = (a, v) ∨ (p ∈ l ∧ p.1 ≠ a)
  | [], _, h => by simp [setA] at h; exact .inl h
  | q :: r, hn, h => by
    simp only [List.map_cons, List.nodup_cons] at hn
    simp only [setA] at h
    split at h
    · rename_i he
      rcases List.mem_cons.1 h with h | h
      · exact .inl h
      · refine .inr ⟨List.mem_cons_of_mem _ h, fun e => hn.1 ?_⟩
        rw [← he, ← e]
        exact List.mem_map.2 ⟨p, h, rfl⟩
    · rename_i he
      rcases List.mem_cons.1 h with rfl | h
      · exact .inr ⟨List.mem_cons_self, fun e => he e.symm⟩
      · rcases mem_setA hn.2 h with h | ⟨h1, h2⟩
        · exact .inl h
        · exact .inr ⟨List.mem_cons_of_mem _ h1, h2⟩
theorem setA_setA (a : α) (u v : β) : ∀ (l : List (α × β)), setA a v (setA a u l) = setA a v l
  | [] => by simp [setA]
  | p :: r => by
    simp only [setA]
    by_cases h : a = p.1
    · simp [h, setA]
    · rw [if_neg h, if_neg h, setA, if_neg h, setA_setA a u v r]
theorem VRel.setOn {R R' : Value → β → Prop} {a : α} {v : Value} {b : β} (ht : R' v b) : ∀ {r : List (α × Value)} {s : List (α × β)}, VRel R r s → (r.map (·.1)).Nodup → (∀ p ∈ r, p.1 ≠ a → ∀ y, R p.2 y → R' p.2 y) → VRel R' (setA a v r) (setA a b s)
  | [], [], _, _, _ => ⟨rfl, ht, trivial⟩
  | p :: r, q :: s, H, hn, h => by
    simp only [List.map_cons, List.nodup_cons] at hn
    simp only [setA, ← H.1]
    by_cases hq : a = p.1
    · rw [if_pos hq, if_pos hq]
      exact ⟨rfl, ht, VRel.on H.2.2 fun z hz => h z (List.mem_cons_of_mem _ hz) (fun e => hn.1 (by rw [← hq, ← e]; exact List.mem_map.2 ⟨z, hz, rfl⟩))⟩
    · rw [if_neg hq, if_neg hq]
      exact ⟨H.1, h p List.mem_cons_self (Ne.symm hq) _ H.2.1, VRel.setOn ht H.2.2 hn.2 fun z hz => h z (List.mem_cons_of_mem _ hz)⟩
  | [], _ :: _, h, _, _ => h.elim
  | _ :: _, [], h, _, _ => h.elim
end

theorem addH_new {x : Head} {l : List Head} (h : x ∉ l) : addH x l = l ++ [x] := by simp [addH, h]
theorem unit_lookup (x : Head) (l : List Head) : (getA x (l.map fun h => (h, unitV))).getD unitV = unitV ∧ (getA x (l.map fun h => (h, unitV))).isSome = decide (x ∈ l) := by
  refine ⟨?_, by rw [getA_mem]; simp [List.map_map, Function.comp_def]⟩
  induction l with
  | nil => rfl
  | cons p r ih =>
    simp only [List.map_cons, getA]
    split
    · rfl
    · exact ih
theorem mapU {w : World} {bb : Nat} {x : Head} {l : List Head} (h : MapAt Head.val w bb (setA x unitV (l.map fun h => (h, unitV)))) : MapAt Head.val w bb ((addH x l).map fun h => (h, unitV)) := by rw [← addH_map]; exact h

theorem leads_ok (wd : Int) (J bh bl : Nat) (A : Nat → Prop) (S : JudgeS) (a b : Head) (w : World) (hJ : JudgeAt wd w J bh bl A S) (hn : S.links.length ≤ 4096) :
    Does Tryz.prog 13 [pt J, Head.val a, Head.val b] w (fun r w' => (∃ B : Bool, r = .bool B ∧ (B = true ↔ a ∈ S.heads ∧ b ∈ S.heads ∧ LeadsTo (S.links.map (·.1)) a b)) ∧ Ext w w') := by
  (refine DoesX.of_vc tyOk Tryz.func13 rfl ⟨rfl, rfl⟩ rfl ?_; (conv => whnf))
  refine RunP.box ?_
  intro b4 w1 hb4 hO4 hE1
  have hO4 : Own w1 b4 (Head.cells a) := by simpa [Head.val, Value.cells] using hO4
  (conv => whnf)
  refine RunP.box ?_
  intro b5 w2 hb5 hO5 hE2
  have hO5 : Own w2 b5 (Head.cells b) := by simpa [Head.val, Value.cells] using hO5
  have hO4 := hO4.ext hE2
  have hE2 := hE1.trans hE2
  (conv => whnf)
  refine GetP.lds tfHead (Head.len a) hO4.cells ?_
  (conv => whnf)
  refine CallP.does (knows_ok wd J bh bl A S a w2 (hJ.ext hE2)) ?_
  rintro r w3 ⟨rfl, hE3⟩
  have hO4 := hO4.ext hE3
  have hO5 := hO5.ext hE3
  have hE3 := hE2.trans hE3
  by_cases hka : a ∈ S.heads
  rotate_left
  · rw [decide_eq_false hka]
    (conv => whnf)
    exact ⟨⟨false, rfl, by simp [hka]⟩, hE3⟩
  rw [decide_eq_true hka]
  (conv => whnf)
  refine GetP.lds tfHead (Head.len b) hO5.cells ?_
  (conv => whnf)
  refine CallP.does (knows_ok wd J bh bl A S b w3 (hJ.ext hE3)) ?_
  rintro r w4 ⟨rfl, hE4⟩
  have hO4 := hO4.ext hE4
  have hO5 := hO5.ext hE4
  have hE4 := hE3.trans hE4
  by_cases hkb : b ∈ S.heads
  rotate_left
  · rw [decide_eq_false hkb]
    (conv => whnf)
    exact ⟨⟨false, rfl, by simp [hkb]⟩, hE4⟩
  rw [decide_eq_true hkb]
  have hs4 := hE4.size
  have hJ4 := hJ.ext hE4
  obtain ⟨lv, hM4, hV4⟩ := hJ4.links
  have hlk := hV4.keys
  have hll : lv.length = S.links.length := by have := congrArg List.length hlk; simpa using this
  (conv => whnf)
  refine RunP.makeMap (val := Head.val) ?_
  intro ba w5 hba hMa hE5
  have hs5 := hE5.size
  have hla := hMa.lt
  (conv => whnf)
  refine GetP.ld tfLinkMap (v := .map (some bl)) (hJ4.ext hE5).atbl ?_
  (conv => whnf)
  refine RunP.range Tryz.underlying80 (hM4.ext hE5) ?_
  intro it wB hit hI hEB
  have hsB := hEB.size
  have hIlt := hI.lt
  have hMl := hM4.lt
  have hE4B : Ext w4 wB := hE5.trans hEB
  (conv => whnf)
  refine loop_only4 tyOk (fun (_ : List Link) (_ : List (Link × Value)) (_ : List (Head × Value)) (_ : List (Head × List Head)) => [(0, pt J), (4, pt b4), (5, pt b5), (7, .map (some ba)), (33, .pointer (some ⟨it, 0, none⟩))])
    (fun pre rest vals af w' => IterAt Link.val w' it bl lv rest ∧ Ext w4 w' ∧ wB.heap.size ≤ w'.heap.size ∧ MapAt Head.val w' ba vals ∧ VRel (fun v ys => Grow codHead 29 wB.heap.size w' v ys) vals af ∧
      (∀ p ∈ vals, ∀ q ∈ vals, p.1 ≠ q.1 → ∀ c, inBlock p.2 c → ¬ inBlock q.2 c) ∧ (pre ++ rest.map (·.1)).Perm (lv.map (·.1)) ∧ (∀ h y, y ∈ getL h af ↔ (⟨h, y⟩ : Link) ∈ pre) ∧ (∀ h, (getL h af).length ≤ pre.length))
    (fun _ rest _ _ => rest.length) [] lv [] []
    (by repeat (first | exact trivial | refine ⟨rfl, ?_⟩)) ⟨hI, hE4B, Nat.le_refl _, hMa.ext hEB, trivial, by simp, .refl _, by simp [getL, getA], by simp [getL, getA]⟩ ?_
  clear hI
  rintro pre rest vals af w6 ⟨hI, hE6, hs6, hMa, hV, hdis, hpm, hmem, hlen⟩
  have hs6' := hE6.size
  (conv => whnf)
  refine RunP.next hI (fun h0 => ?_) (fun i hi w7 hI hC hU7 => ?_)
  · -- over
    subst h0
    simp only [List.map_nil, List.append_nil] at hpm
    rw [hlk] at hpm
    have hmem : ∀ h y, y ∈ getL h af ↔ (⟨h, y⟩ : Link) ∈ S.links.map (·.1) := fun h y => by rw [hmem h y, hpm.mem_iff]
    have hlen : ∀ h, (getL h af).length ≤ 4096 := fun h => by have := hlen h; have := hpm.length_eq; simp at this; omega
    have hV : VRel (fun v ys => Seq codHead w6 v ys) vals af := hV.mono fun v ys h => h.seq
    have hO4 := hO4.ext hE6
    have hO5 := hO5.ext hE6
    have hl4 := hO4.lt
    (conv => whnf)
    refine RunP.makeMap (val := Head.val) ?_
    intro bb w7 hbb hMb hE7
    have hs7 := hE7.size
    have hlb := hMb.lt
    have hO4 := hO4.ext hE7
    (conv => whnf)
    refine GetP.lds tfHead (Head.len a) hO4.cells ?_
    (conv => whnf)
    refine GetP.build (cells := #[]) (by kernel_rfl) ?_
    (conv => whnf)
    refine DoP.mapUpdate (l := []) keyHead Tryz.underlying79 hMb a ?_
    intro w8 hMb hU8
    have hs8 := hU8.size
    have hMb : MapAt Head.val w8 bb ([a].map fun h => (h, unitV)) := hMb
    have hO4 := hO4.upd hU8 (by omega)
    have hE8 : Ext w6 w8 := hE7.upd hU8 hbb
    (conv => whnf)
    refine GetP.lds tfHead (Head.len a) hO4.cells ?_
    (conv => whnf)
    refine RunP.slice (C := codHead) (l := [a]) (vals := [Head.val a]) Tryz.runUnderlying50 Tryz.sizeOf29 Tryz.zeroValue29 (Head.len zeroHead) rfl (by simp [codHead, Head.val, Value.cells]) (by simp [codHead]) ?_
    intro bw w9 hbw hOw hE9 _ hGw
    have hs9 := hE9.size
    have hGw : Grow codHead 29 w8.heap.size w9 (.slice (some ⟨bw, 0, none⟩) 1 1) [a] := hGw (by simp)
    (conv => whnf)
    refine loop_only3 tyOk (fun (_ : List Head) (_ : List Head) (u : Value) => [(5, pt b5), (7, .map (some ba)), (9, .map (some bb)), (10, u)])
      (fun D W u w' => MapAt Head.val w' bb (D.map fun h => (h, unitV)) ∧ Grow codHead 29 w8.heap.size w' u W ∧ Ext w6 w' ∧ w8.heap.size ≤ w'.heap.size ∧ (a ∈ D ∧ (∀ x ∈ W, x ∈ D) ∧ (∀ d ∈ D, LeadsTo (S.links.map (·.1)) a d) ∧ ∀ d ∈ D, d ∉ W → ∀ y, (⟨d, y⟩ : Link) ∈ S.links.map (·.1) → y ∈ D) ∧ W.length + 2 * newL (S.links.map (·.1)) D ≤ 8193)
      (fun D W _ => W.length + 2 * newL (S.links.map (·.1)) D) [a] [a] _
      (by repeat (first | exact trivial | refine ⟨rfl, ?_⟩)) ⟨hMb.ext hE9, hGw, hE8.trans hE9, by omega, ⟨by simp, by simp, by simp; exact .refl a, by simp⟩, by have := newL_le (S.links.map (·.1)) [a]; simp at this ⊢; omega⟩ ?_
    clear hMb hGw
    rintro D W u w10 ⟨hMb, hGw, hE10, hs10, ⟨hD1, hD2, hD3, hD4⟩, hmu⟩
    have hs10' := hE10.size
    (conv => whnf)
    refine GetP.lenS Tryz.runUnderlying50 hGw.seq ?_
    (conv => whnf)
    refine CmpP.split (fun h => ?_) (fun h => ?_)
    rotate_left
    · have h : W = [] := by
        cases W with
        | nil => rfl
        | cons _ _ => simp at h
      subst h
      have hDD : ∀ d, d ∈ D ↔ LeadsTo (S.links.map (·.1)) a d := fun d => ⟨hD3 d, fun h => h.closed hD1 fun e he y hy => hD4 e he (by simp) y hy⟩
      have hO5 := hO5.ext hE10
      (conv => whnf)
      refine GetP.lds tfHead (Head.len b) hO5.cells ?_
      (conv => whnf)
      refine GetP.lookup (l := D.map fun h => (h, unitV)) (z := unitV) keyHead Tryz.underlying79 Tryz.zeroValue84 (fun w' hw' => hw' ▸ hMb) b ?_
      obtain ⟨hl1, hl2⟩ := unit_lookup b D
      rw [hl1, hl2]
      (conv => whnf)
      refine RunP.new (z := unitV) Tryz.zeroValue84 ?_
      intro b16 w11 hb16 hO16 hE11
      have hO16 : Own w11 b16 [] := hO16
      (conv => whnf)
      refine DoP.sts0 tfUnit (vs := []) hO16 rfl rfl (by simp) ?_
      intro w12 hO12 hU12
      (conv => whnf)
      refine ⟨⟨_, rfl, ?_⟩, (hE4.trans hE6).trans (hE10.trans (hE11.upd hU12 hb16))⟩
      simp only [decide_eq_true_eq]
      rw [hDD]
      exact ⟨fun h => ⟨hka, hkb, h⟩, fun h => h.2.2⟩
    obtain ⟨W, x, rfl⟩ : ∃ W' x, W = W' ++ [x] := by
      rcases List.eq_nil_or_concat W with rfl | ⟨W', x, rfl⟩
      · simp at h
      · exact ⟨W', x, by simp⟩
    have e1 : (((W ++ [x]).length : Int) - 1) = ((W.length : Nat) : Int) := by simp
    (conv => whnf)
    refine GetP.lenS Tryz.runUnderlying50 hGw.seq ?_
    (conv => whnf)
    (refine NumP.fit (by first | decide | (simp only [kmin]; omega)) (by first | decide | (simp only [kmax]; omega)) ?_; (conv => whnf))
    rw [e1]
    (conv => whnf)
    refine GetP.idxS Tryz.runUnderlying50 Tryz.sizeOf29 hGw.seq (by omega) (by simp; omega) ?_
    intro b61 o61 hc61
    have hx : (W ++ [x])[((W.length : Nat) : Int).toNat]'(by simp) = x := by simp
    rw [hx] at hc61
    (conv => whnf)
    refine GetP.lds tfHead (Head.len x) hc61 ?_
    (conv => whnf)
    refine RunP.new (z := Head.val zeroHead) Tryz.zeroValue29 ?_
    intro b11 w11 hb11 hO11 hE11
    have hs11 := hE11.size
    have hO11 : Own w11 b11 (Head.cells zeroHead) := by simpa [Head.val, Value.cells] using hO11
    (conv => whnf)
    refine DoP.sts0 tfHead hO11 (Head.len x) (Head.len _) (Head.one x) ?_
    intro w12 hO11 hU12
    have hs12 := hU12.size
    have hE12 : Ext w10 w12 := hE11.upd hU12 hb11
    have hGw := hGw.ext hE12
    have hMb := hMb.ext hE12
    have hE12 := hE10.trans hE12
    (conv => whnf)
    refine GetP.lenS Tryz.runUnderlying50 hGw.seq ?_
    (conv => whnf)
    (refine NumP.fit (by first | decide | (simp only [kmin]; omega)) (by first | decide | (simp only [kmax]; omega)) ?_; (conv => whnf))
    rw [e1]
    (conv => whnf)
    refine GetP.cutG hGw Tryz.runUnderlying50 Tryz.sizeOf29 (by simp) ?_
    intro u2 hGw hin2
    rw [List.take_left' rfl] at hGw
    (conv => whnf)
    refine GetP.lds tfHead (Head.len x) hO11.cells ?_
    (conv => whnf)
    have hMa12 : MapAt Head.val w12 ba vals := hMa.ext hE12
    refine GetP.lookup (l := vals) (z := .slice none 0 0) keyHead Tryz.underlying106 Tryz.zeroValue50 (fun w' hw' => hw' ▸ hMa12) x ?_
    have hSx : Seq codHead w12 ((getA x vals).getD (.slice none 0 0)) (getL x af) := by
      unfold getL
      rcases hV.get (a := x) with ⟨h1, h2⟩ | ⟨v, t, h1, h2, h3⟩
      · rw [h1, h2]; exact Seq.nil _ _
      · rw [h1, h2]; exact h3.ext hE12
    have hSx6 : ∀ {c}, inBlock ((getA x vals).getD (.slice none 0 0)) c → c < w6.heap.size := fun {c} hc => by
      rcases hV.get (a := x) with ⟨h1, h2⟩ | ⟨v, t, h1, h2, h3⟩
      · rw [h1] at hc; obtain ⟨_, _, _, hc⟩ := hc; cases hc
      · rw [h1] at hc; exact h3.lt hc
    generalize hvx : (getA x vals).getD (.slice none 0 0) = vx at hSx hSx6
    have hSxw : ∀ w', Ext w6 w' → Seq codHead w' vx (getL x af) := fun w' hE' => by
      rcases hSx with hq | ⟨bq, oq, cq, rfl, hcq, hbq, hcells⟩
      · exact .inl hq
      · have hlt := hSx6 ⟨_, _, _, rfl⟩
        refine .inr ⟨bq, oq, cq, rfl, hcq, Nat.lt_of_lt_of_le hlt hE'.size, fun j z hz => ?_⟩
        have h1 := hcells j z hz
        have h2 := (hE'.block bq hlt).trans (hE12.block bq hlt).symm
        exact (World.cell?_of_block h2).trans h1
    (conv => whnf)
    refine GetP.lenS Tryz.runUnderlying50 hSx ?_
    (conv => whnf)
    have hxD : x ∈ D := hD2 x (by simp)
    have hwl : W.length + 1 + 2 * newL (S.links.map (·.1)) D ≤ 8193 := by simpa using hmu
    refine loop_only4 tyOk (fun (k : Nat) (_ : List Head) (_ : List Head) (u : Value) => [(5, pt b5), (7, .map (some ba)), (9, .map (some bb)), (10, u), (70, vx), (71, .int .i64 (getL x af).length), (72, .int .i64 k)])
      (fun k D' W' u w' => k ≤ (getL x af).length ∧ MapAt Head.val w' bb (D'.map fun h => (h, unitV)) ∧ Grow codHead 29 w8.heap.size w' u W' ∧ Ext w6 w' ∧ w8.heap.size ≤ w'.heap.size ∧ (a ∈ D' ∧ x ∈ D' ∧ (∀ z ∈ W', z ∈ D') ∧ (∀ d ∈ D', LeadsTo (S.links.map (·.1)) a d) ∧ (∀ d ∈ D', d ∉ W' → d ≠ x → ∀ y, (⟨d, y⟩ : Link) ∈ S.links.map (·.1) → y ∈ D') ∧ ∀ y ∈ (getL x af).take k, y ∈ D') ∧ W'.length + 2 * newL (S.links.map (·.1)) D' ≤ W.length + 2 * newL (S.links.map (·.1)) D)
      (fun k _ _ _ => (getL x af).length - k) 0 D W u2
      (by repeat (first | exact trivial | refine ⟨rfl, ?_⟩)) ⟨Nat.zero_le _, hMb, hGw, hE12, by omega, ⟨hD1, hxD, fun z hz => hD2 z (by simp [hz]), hD3, fun d hd hdw hdx y hy => hD4 d hd (by simp [hdw, hdx]) y hy, by simp⟩, Nat.le_refl _⟩ ?_
    have hlenx := hlen x
    clear hMb hGw hD2 hD3 hD4 hxD
    rintro k D' W' u' w13 ⟨hk, hMb, hGw, hE13, hs13, ⟨hD0, hDx, hD2, hD3, hD4, hD5⟩, hmu'⟩
    have hs13' := hE13.size
    (conv => whnf)
    refine CmpP.split (fun h2 => ?_) (fun h2 => ?_)
    rotate_left
    · have h2 : k = (getL x af).length := by simp at h2; omega
      (conv => whnf)
      refine ⟨D', W', u', (by repeat (first | exact trivial | refine ⟨rfl, ?_⟩)), ⟨hMb, hGw, hE13, hs13, ⟨hD0, hD2, hD3, fun d hd hdw y hy => ?_⟩, by omega⟩, by simp; omega⟩
      by_cases hdx : d = x
      · subst hdx
        refine hD5 y ?_
        rw [h2, List.take_length, hmem]
        exact hy
      · exact hD4 d hd hdw hdx y hy
    have h2 : k < (getL x af).length := by simp at h2; omega
    (conv => whnf)
    refine GetP.idxS Tryz.runUnderlying50 Tryz.sizeOf29 (hSxw w13 hE13) (by omega) (by omega) ?_
    intro b74 o74 hc74
    simp only [Int.toNat_natCast] at hc74
    have hyl : (⟨x, (getL x af)[k]⟩ : Link) ∈ S.links.map (·.1) := (hmem x _).1 (List.getElem_mem _)
    have htk : (getL x af).take (k + 1) = (getL x af).take k ++ [(getL x af)[k]] := List.take_succ_eq_append_getElem h2
    generalize hy : (getL x af)[k] = y at hc74 hyl htk
    (conv => whnf)
    refine GetP.lds tfHead (Head.len y) hc74 ?_
    (conv => whnf)
    refine RunP.new (z := Head.val zeroHead) Tryz.zeroValue29 ?_
    intro b13 w14 hb13 hO13 hE14
    have hs14 := hE14.size
    have hO13 : Own w14 b13 (Head.cells zeroHead) := by simpa [Head.val, Value.cells] using hO13
    (conv => whnf)
    refine DoP.sts0 tfHead hO13 (Head.len y) (Head.len _) (Head.one y) ?_
    intro w15 hO13 hU15
    have hs15 := hU15.size
    have hE15 : Ext w13 w15 := hE14.upd hU15 hb13
    have hMb := hMb.ext hE15
    have hGw := hGw.ext hE15
    (conv => whnf)
    refine GetP.lds tfHead (Head.len y) hO13.cells ?_
    (conv => whnf)
    refine GetP.lookup (l := D'.map fun h => (h, unitV)) (z := unitV) keyHead Tryz.underlying79 Tryz.zeroValue84 (fun w' hw' => hw' ▸ hMb) y ?_
    obtain ⟨hl1, hl2⟩ := unit_lookup y D'
    rw [hl1, hl2]
    (conv => whnf)
    refine RunP.new (z := unitV) Tryz.zeroValue84 ?_
    intro b14 w16 hb14 hO14 hE16
    have hs16 := hE16.size
    have hO14 : Own w16 b14 [] := hO14
    (conv => whnf)
    refine DoP.sts0 tfUnit (vs := []) hO14 rfl rfl (by simp) ?_
    intro w17 hO14 hU17
    have hs17 := hU17.size
    have hE17 : Ext w15 w17 := hE16.upd hU17 hb14
    have hMb := hMb.ext hE17
    have hGw := hGw.ext hE17
    have hO13 := hO13.ext hE17
    have hE17 := hE13.trans (hE15.trans hE17)
    have hlb' := hMb.lt
    by_cases hyD : y ∈ D'
    · rw [decide_eq_true hyD]
      (conv => whnf)
      (refine NumP.fit (by first | decide | (simp only [kmin]; omega)) (by first | decide | (simp only [kmax]; omega)) ?_; (conv => whnf))
      refine ⟨k + 1, D', W', u', (by repeat (first | exact trivial | refine ⟨rfl, ?_⟩)), ⟨by omega, hMb, hGw, hE17, by omega, ⟨hD0, hDx, hD2, hD3, hD4, fun z hz => ?_⟩, hmu'⟩, by omega⟩
      rw [htk] at hz
      rcases List.mem_append.1 hz with hz | hz
      · exact hD5 z hz
      · simp at hz; subst hz; exact hyD
    · rw [decide_eq_false hyD]
      (conv => whnf)
      refine GetP.lds tfHead (Head.len y) hO13.cells ?_
      (conv => whnf)
      refine GetP.build (cells := #[]) (by kernel_rfl) ?_
      (conv => whnf)
      refine DoP.mapUpdate (l := D'.map fun h => (h, unitV)) keyHead Tryz.underlying79 hMb y ?_
      intro w18 hMb hU18
      have hs18 := hU18.size
      have hMb := mapU hMb
      rw [addH_new hyD] at hMb
      have hne13 : b13 ≠ bb := by omega
      have hO13 := hO13.upd hU18 hne13
      have hGw := hGw.upd hU18 (fun hb => by have := (hGw.block hb).1; omega)
      have hE18 : Ext w6 w18 := hE17.upd hU18 hbb
      (conv => whnf)
      refine GetP.lds tfHead (Head.len y) hO13.cells ?_
      (conv => whnf)
      refine RunP.slice1 (C := codHead) (a := y) Tryz.runUnderlying50 Tryz.sizeOf29 Tryz.zeroValue29 (Head.len zeroHead) rfl (by decide) ?_
      intro b89 w19 hb89 hO89 hE19 hq19
      have hs19 := hE19.size
      have hGw := hGw.ext hE19
      have hMb := hMb.ext hE19
      have hE19 := hE18.trans hE19
      (conv => whnf)
      have hWl : W'.length ≤ 8193 := by omega
      refine RunP.append elHead hGw hq19 (by simp only [maxLen, List.length_cons, List.length_nil]; omega) (by simp only [List.length_cons, List.length_nil]; omega) (by omega) ?_
      intro u3 w20 hG20 hgr
      have hB20 := hGw.grown_below hgr (by omega)
      have hs20 := hgr.size
      (conv => whnf)
      (refine NumP.fit (by first | decide | (simp only [kmin]; omega)) (by first | decide | (simp only [kmax]; omega)) ?_; (conv => whnf))
      have hnl := newL_add (D := D') hyl hyD
      refine ⟨k + 1, D' ++ [y], W' ++ [y], u3, (by repeat (first | exact trivial | refine ⟨rfl, ?_⟩)), ⟨by omega, hMb.below hB20 (by omega), hG20, Below.trans hE19 (Below.mono hB20 (by omega)), by omega, ⟨by simp [hD0], by simp [hDx], ?_, ?_, ?_, ?_⟩, ?_⟩, by omega⟩
      · intro z hz
        rcases List.mem_append.1 hz with hz | hz
        · exact List.mem_append_left _ (hD2 z hz)
        · exact List.mem_append_right _ hz
      · intro d hd
        rcases List.mem_append.1 hd with hd | hd
        · exact hD3 d hd
        · simp at hd; subst hd; exact .step (hD3 x hDx) hyl
      · intro d hd hdw hdx z hz
        simp only [List.mem_append, List.mem_singleton, not_or] at hd hdw
        rcases hd with hd | hd
        · exact List.mem_append_left _ (hD4 d hd hdw.1 hdx z hz)
        · exact absurd hd hdw.2
      · intro z hz
        rw [htk] at hz
        rcases List.mem_append.1 hz with hz | hz
        · exact List.mem_append_left _ (hD5 z hz)
        · exact List.mem_append_right _ hz
      · have e : newL (S.links.map (·.1)) (D' ++ [y]) + 1 ≤ newL (S.links.map (·.1)) D' := hnl
        rw [List.length_append]
        simp only [List.length_cons, List.length_nil]
        omega
  · have hs7 := hU7.size
    generalize hx : rest[i] = x at hC
    have hilt := hI.lt
    have hE7 : Ext w4 w7 := hE6.upd hU7 (by omega)
    have hMa := hMa.upd hU7 (by omega)
    have hVlt : ∀ p ∈ vals, ∀ c, inBlock p.2 c → wB.heap.size ≤ c ∧ c < w6.heap.size := by
      have aux : ∀ {r : List (Head × Value)} {s : List (Head × List Head)}, VRel (fun v ys => Grow codHead 29 wB.heap.size w6 v ys) r s → ∀ p ∈ r, ∀ c, inBlock p.2 c → wB.heap.size ≤ c ∧ c < w6.heap.size := by
        intro r
        induction r with
        | nil => intro s _ p hp; cases hp
        | cons q r ih =>
          intro s hs p hp c hc
          cases s with
          | nil => exact hs.elim
          | cons t s =>
            rcases List.mem_cons.1 hp with rfl | hp
            · exact hs.2.1.block hc
            · exact ih hs.2.2 p hp c hc
      exact aux hV
    have hV := VRel.on hV (R' := fun v ys => Grow codHead 29 wB.heap.size w7 v ys) fun p hp y hg => hg.upd hU7 (fun hb => by have := (hVlt p hp _ hb).1; omega)
    (conv => whnf)
    refine RunP.entry hC ?_
    (conv => whnf)
    refine RunP.new (z := Link.val zeroLink) Tryz.zeroValue90 ?_
    intro b8 w8 hb8 hO8 hE8
    have hs8 := hE8.size
    have hO8 : Own w8 b8 (Link.cells zeroLink) := by simpa [Link.val, Value.cells] using hO8
    (conv => whnf)
    refine DoP.sts0 tfLink hO8 (Link.len x.1) (Link.len _) (Link.one x.1) ?_
    intro w9 hO8 hU9
    have hE9 : Ext w7 w9 := hE8.upd hU9 hb8
    have hs9 := hE9.size
    (conv => whnf)
    refine GetP.lds tfHead (Head.len x.1.a) (linkA hO8) ?_
    (conv => whnf)
    refine GetP.lds tfHead (Head.len x.1.b) (linkB hO8) ?_
    (conv => whnf)
    refine RunP.slice1 (C := codHead) (a := x.1.b) Tryz.runUnderlying50 Tryz.sizeOf29 Tryz.zeroValue29 (Head.len zeroHead) rfl (by decide) ?_
    intro b44 w10 hb44 hO44 hE10 hq10
    have hE10 := hE9.trans hE10
    have hs10 := hE10.size
    have hMa := hMa.ext hE10
    (conv => whnf)
    refine RunP.mapEntry (l := vals) (z := .slice none 0 0) keyHead Tryz.underlying106 Tryz.zeroValue50 hMa x.1.a ?_
    intro w11 st hSt hU11
    have hs11 := hU11.size
    have hE7b : Ext w4 w10 := hE7.trans hE10
    have hE11 : Ext w4 w11 := hE7b.upd hU11 hba
    have hq11 : Seq codHead w11 (.slice (some ⟨b44, 0, none⟩) 1 1) [x.1.b] := hq10.upd hU11 (fun ⟨_, _, _, hb⟩ => by cases hb; omega)
    have hI := (hI.ext hE10).upd hU11 (by omega) (by omega)
    have hV := VRel.on hV (R' := fun v ys => Grow codHead 29 wB.heap.size w11 v ys) fun p hp y hg => (hg.ext hE10).upd hU11 (fun hb => by have := (hVlt p hp _ hb).1; omega)
    have hv0 : Grow codHead 29 wB.heap.size w11 ((getA x.1.a vals).getD (.slice none 0 0)) (getL x.1.a af) ∧ (∀ c, inBlock ((getA x.1.a vals).getD (.slice none 0 0)) c → c < w6.heap.size ∧ ∀ q ∈ vals, q.1 ≠ x.1.a → ¬ inBlock q.2 c) := by
      unfold getL
      rcases hV.get (a := x.1.a) with ⟨h1, h2⟩ | ⟨v, t, h1, h2, h3⟩
      · rw [h1, h2]
        exact ⟨Grow.nil _ _ _ _, fun c ⟨_, _, _, hc⟩ => by cases hc⟩
      · rw [h1, h2]
        have hm := mem_of_getA h1
        exact ⟨h3, fun c hc => ⟨(hVlt _ hm c hc).2, fun q hq hne => hdis _ hm q hq (Ne.symm hne) c hc⟩⟩
    obtain ⟨hG0, hd0⟩ := hv0
    generalize hvv : (getA x.1.a vals).getD (.slice none 0 0) = v0 at hSt hG0 hd0
    have hlen0 := hlen x.1.a
    have hprel : pre.length + rest.length = lv.length := by have := hpm.length_eq; simpa using this
    (conv => whnf)
    refine RunP.appendX elHead hG0 hq11 (by simp only [maxLen, List.length_cons, List.length_nil]; omega) (by simp only [List.length_cons, List.length_nil]; omega) (by omega) ?_
    intro v1 w12 hG1 hgr hin1
    have hs12 := hgr.size
    have hB12 := hG0.grown_below hgr (by omega)
    have hSt : StampAt Head.val w12 ba (setA x.1.a v0 vals) x.1.a st := hSt.same (hB12.block ba (by omega))
    have hI := hI.below hB12 (by omega) (by omega)
    have hE12 : Ext w4 w12 := Below.trans hE11 (Below.mono hB12 (by omega))
    have hkn := hMa.keys
    have hV := VRel.setOn (a := x.1.a) (v := v1) (b := getL x.1.a af ++ [x.1.b]) (R' := fun v ys => Grow codHead 29 wB.heap.size w12 v ys) hG1 hV hkn fun p hp hne y hg => hg.kept hG0 hgr (fun c hc hc0 => (hd0 c hc0).2 p hp hne hc)
    (conv => whnf)
    refine DoP.entryStore hSt ?_
    intro w13 hMa hU13
    have hs13 := hU13.size
    rw [setA_setA] at hMa
    have hv1lt : ∀ c, inBlock v1 c → wB.heap.size ≤ c := fun c hc => (hG1.block hc).1
    (conv => whnf)
    refine ⟨pre ++ [x.1], rest.eraseIdx i, setA x.1.a v1 vals, setA x.1.a (getL x.1.a af ++ [x.1.b]) af, (by repeat (first | exact trivial | refine ⟨rfl, ?_⟩)), ⟨hI.upd hU13 (by omega) (by omega), hE12.upd hU13 hba, by omega, hMa, ?_, ?_, ?_, ?_, ?_⟩, ?_⟩
    · refine VRel.on hV fun p hp y hg => hg.upd hU13 (fun hb => ?_)
      rcases mem_setA hkn hp with rfl | ⟨hp, _⟩
      · have := hv1lt _ hb; omega
      · have := (hVlt p hp _ hb).1; omega
    · intro p hp q hq hne c hc hc'
      have hv1 : ∀ q ∈ vals, q.1 ≠ x.1.a → ∀ c, inBlock v1 c → ¬ inBlock q.2 c := fun q hq hne c hc hcq => by
        rcases hin1 c hc with h | h
        · exact (hd0 c h).2 q hq hne hcq
        · have := (hVlt q hq c hcq).2; omega
      rcases mem_setA hkn hp with rfl | ⟨hp, hpa⟩
      · rcases mem_setA hkn hq with rfl | ⟨hq, hqa⟩
        · exact hne rfl
        · exact hv1 q hq hqa c hc hc'
      · rcases mem_setA hkn hq with rfl | ⟨hq, hqa⟩
        · exact hv1 p hp hpa c hc' hc
        · exact hdis p hp q hq hne c hc hc'
    · have h1 := perm_erase rest i hi
      rw [hx] at h1
      have h2 := h1.map (·.1)
      rw [List.map_cons] at h2
      rw [List.append_assoc]
      exact ((List.Perm.append_left pre h2)).trans hpm
    · intro h y
      unfold getL
      rw [getA_set]
      by_cases hh : h = x.1.a
      · subst hh
        rw [if_pos rfl]
        simp only [Option.getD_some, List.mem_append, List.mem_singleton]
        have hm := hmem x.1.a y
        unfold getL at hm
        rw [hm]
        constructor
        · rintro (h | rfl)
          · exact .inl h
          · exact .inr rfl
        · rintro (h | h)
          · exact .inl h
          · right; have := congrArg Link.b h; exact this
      · rw [if_neg hh]
        have := hmem h y
        unfold getL at this
        rw [this]
        simp only [List.mem_append, List.mem_singleton]
        constructor
        · exact .inl
        · rintro (h' | h')
          · exact h'
          · exact absurd (congrArg Link.a h') hh
    · intro h
      unfold getL
      rw [getA_set]
      by_cases hh : h = x.1.a
      · subst hh
        rw [if_pos rfl]
        unfold getL at hlen0
        simp only [Option.getD_some, List.length_append, List.length_cons, List.length_nil]
        omega
      · rw [if_neg hh]
        have := hlen h
        unfold getL at this
        simp only [List.length_append, List.length_cons, List.length_nil]
        omega
    · rw [List.length_eraseIdx_of_lt hi]
      omega
end Go.Proofs.YtgeemplpgfiidaaGreatDoor.Mv
/- massiflaw18: awake. -/
namespace Go.Proofs.YtgeemplpgfiidaaGreatDoor.Mv
open Go Go.RowKit Go.Proofs

def h1H (k : UInt8) : H := ⟨k :: List.replicate 31 0, by simp⟩
def aW : Head := ⟨3, h1H 1⟩
def bW : Head := ⟨3, h1H 2⟩
def dW : Head := ⟨4, zeroH⟩
theorem kB_rep (n : Nat) : kB (List.replicate n 0) = 0 := by
  induction n with
  | zero => rfl
  | succ n ih => simp [List.replicate_succ, kB, ih]
theorem ab_lt : orderF aW bW < 0 := by
  rw [(order_k aW bW).1]
  right
  refine ⟨rfl, ?_⟩
  show kB (1 :: List.replicate 31 0) < kB (2 :: List.replicate 31 0)
  simp only [kB, kB_rep, List.length_replicate]
  decide
theorem ab_ne : aW ≠ bW := by
  intro e
  have := (order_k aW bW).2.2 e
  have := ab_lt
  omega
theorem perm_two {α : Type} {l : List α} {a b : α} (h : l.Perm [b, a]) : l = [b, a] ∨ l = [a, b] := by
  have hl : l.length = 2 := by simpa using h.length_eq
  match l, hl with
  | [x, y], _ =>
    have hx : x ∈ [b, a] := h.mem_iff.1 (by simp)
    simp only [List.mem_cons, List.not_mem_nil, or_false] at hx
    rcases hx with rfl | rfl
    · have := List.Perm.cons_inv h
      have : y = a := by simpa using this
      exact .inl (by rw [this])
    · have h2 := h.trans (List.Perm.swap x b [])
      have := List.Perm.cons_inv h2
      have : y = b := by simpa using this
      exact .inr (by rw [this])

theorem eqFork : EqT Tryz.prog 103 3 ForkT.val := EqT.tri (t0 := 22) (t1 := 24) (t2 := 24) (p0 := ForkT.n) (p1 := ForkT.a) (p2 := ForkT.b) (cs := ForkT.cells) Tryz.underlying103 Tryz.stoodInHeld103 ⟨by decide, by decide, by decide⟩ ⟨rfl, rfl, rfl⟩ (fun _ => rfl)
  (fun c w => run_part_one tfU64 rfl) (fun c w => by
    have := run_part_agg (w := w) (pre := [u64V c.n]) (mid := H.cells c.a) (post := H.cells c.b) tfHash (H.len _)
    simpa [ForkT.cells, H.val] using this) (fun c w => by
    have := run_part_agg (w := w) (pre := u64V c.n :: H.cells c.a) (mid := H.cells c.b) (post := []) tfHash (H.len _)
    simpa [ForkT.cells, H.val, H.len] using this) (fun c d => by cases c; cases d; simp) (EqT.int Tryz.underlying22) eqHash eqHash
theorem tfFork : TyF Tryz.prog 103 true 65 := ⟨Tryz.isAgg103, Tryz.sizeOf103⟩

theorem CellsAt.of_seq {α : Type} {C : Cod α} {w : World} {b o n c : Nat} {l : List α} (h : Seq C w (.slice (some ⟨b, o, none⟩) n c) l) {i : Nat} {x : α} (hx : l[i]? = some x) : CellsAt w b (o + i * C.size) (C.cells x) := by
  rcases h with ⟨h, _⟩ | ⟨b', o', cap', h, _, _, hc⟩
  · cases h
  · cases h
    have hi := (List.getElem?_eq_some_iff.1 hx).1
    have hxe := (List.getElem?_eq_some_iff.1 hx).2
    rw [C.split hi, hxe] at hc
    have := hc.mid
    rw [C.all_len, List.length_take, Nat.min_eq_left (Nat.le_of_lt hi)] at this
    exact this
theorem seq_some {α : Type} {C : Cod α} {w : World} {v : Value} {l : List α} (h : Seq C w v l) (hl : l ≠ []) : ∃ b o c, v = .slice (some ⟨b, o, none⟩) l.length c ∧ b < w.heap.size := by
  rcases h with ⟨_, h⟩ | ⟨b, o, c, h, _, hb, _⟩
  · exact absurd h hl
  · exact ⟨b, o, c, h, hb⟩

theorem awake_ok (w : World) (hg : Glob w) : Does Tryz.prog 14 [] w (fun r w' => r = .bool true ∧ Ext w w') := by
  (refine DoesX.of_vc tyOk Tryz.func14 rfl ⟨rfl, rfl⟩ rfl ?_; (conv => whnf))
  refine CallP.does (newJudge_ok 32 w) ?_
  rintro r w1 ⟨J, bh, bl, rfl, hJ0, hbh0, hbl0, hJl, hbhl, hbll, hne, hJ, hE1⟩
  have hs1 := hE1.size
  obtain ⟨A, hJ⟩ : ∃ A : Nat → Prop, JudgeAt 32 w1 J bh bl A ⟨[], []⟩ := ⟨_, hJ (fun x => x < w1.heap.size) hJl hbhl hbll (fun _ h => h)⟩
  (conv => whnf)
  refine ptr_eq Tryz.runUnderlying26 ?_
  (conv => whnf)
  (refine CmpP.no (by first | decide | (simp; done) | (simp; omega)) ?_; (conv => whnf))
  refine GetP.build (cells := (H.cells (h1H 1)).toArray) (by kernel_rfl) ?_
  (conv => whnf)
  refine GetP.build (cells := (Head.cells aW).toArray) (by kernel_rfl) ?_
  (conv => whnf)
  refine GetP.build (cells := (H.cells (h1H 2)).toArray) (by kernel_rfl) ?_
  (conv => whnf)
  refine GetP.build (cells := (Head.cells bW).toArray) (by kernel_rfl) ?_
  (conv => whnf)
  refine RunP.new (z := Head.val zeroHead) Tryz.zeroValue29 ?_
  intro b2 w2 hb2 hO2 hE2
  have hO2 : Own w2 b2 (Head.cells zeroHead) := by simpa [Head.val, Value.cells] using hO2
  have hl2 := hO2.lt
  (conv => whnf)
  refine RunP.new (z := Head.val zeroHead) Tryz.zeroValue29 ?_
  intro b3 w3 hb3 hO3 hE3
  have hO3 : Own w3 b3 (Head.cells zeroHead) := by simpa [Head.val, Value.cells] using hO3
  have hO2 := hO2.ext hE3
  have hne23 : b2 ≠ b3 := by omega
  have hb3 : w1.heap.size ≤ b3 := by have := hE2.size; omega
  have hE3 := hE2.trans hE3
  (conv => whnf)
  refine DoP.sts0 tfHead hO2 (Head.len aW) (Head.len _) (Head.one aW) ?_
  intro w4 hO2 hU4
  have hO3 := hO3.upd hU4 (Ne.symm hne23)
  have hE4 : Ext w1 w4 := hE3.upd hU4 hb2
  (conv => whnf)
  refine DoP.sts0 tfHead hO3 (Head.len bW) (Head.len _) (Head.one bW) ?_
  intro w5 hO3 hU5
  have hO2 := hO2.upd hU5 hne23
  have hE5 : Ext w1 w5 := hE4.upd hU5 hb3
  have hJ := hJ.ext hE5
  have hE5 := hE1.trans hE5
  have hl2 := hO2.lt
  have hl3 := hO3.lt
  (conv => whnf)
  refine GetP.lds tfHead (Head.len bW) hO3.cells ?_
  (conv => whnf)
  refine CallP.does (see_ok 32 J bh bl A ⟨[], []⟩ bW w5 hJ (by decide) (by decide)) ?_
  rintro r w6 ⟨rfl, hJ, hU6⟩
  have hJ : JudgeAt 32 w6 J bh bl A ⟨[bW], []⟩ := hJ
  have hE6 : Ext w w6 := hE5.upd hU6 (by omega)
  have hs6 := hU6.size
  have hO2 := hO2.upd hU6 (by omega)
  have hO3 := hO3.upd hU6 (by omega)
  (conv => whnf)
  (refine CmpP.no (by first | decide | (simp; done) | (simp; omega)) ?_; (conv => whnf))
  refine GetP.lds tfHead (Head.len aW) hO2.cells ?_
  (conv => whnf)
  refine CallP.does (see_ok 32 J bh bl A ⟨[bW], []⟩ aW w6 hJ (by decide) (by decide)) ?_
  rintro r w7 ⟨rfl, hJ, hU7⟩
  have hJ : JudgeAt 32 w7 J bh bl A ⟨[bW, aW], []⟩ := by
    have : addH aW [bW] = [bW, aW] := addH_new (by simp; exact ab_ne)
    simpa [this] using hJ
  have hE7 : Ext w w7 := hE6.upd hU7 (by omega)
  have hs7 := hU7.size
  have hO2 := hO2.upd hU7 (by omega)
  have hO3 := hO3.upd hU7 (by omega)
  (conv => whnf)
  (refine CmpP.no (by first | decide | (simp; done) | (simp; omega)) ?_; (conv => whnf))
  refine GetP.lds tfHead (Head.len aW) hO2.cells ?_
  (conv => whnf)
  refine CallP.does (see_ok 32 J bh bl A ⟨[bW, aW], []⟩ aW w7 hJ (by decide) (by decide)) ?_
  rintro r w8 ⟨rfl, hJ, hU8⟩
  have hJ : JudgeAt 32 w8 J bh bl A ⟨[bW, aW], []⟩ := by
    have : addH aW [bW, aW] = [bW, aW] := by simp [addH]
    simpa [this] using hJ
  have hE8 : Ext w w8 := hE7.upd hU8 (by omega)
  have hs8 := hU8.size
  have hO2 := hO2.upd hU8 (by omega)
  have hO3 := hO3.upd hU8 (by omega)
  (conv => whnf)
  (refine CmpP.no (by first | decide | (simp; done) | (simp; omega)) ?_; (conv => whnf))
  have sorted2 : ∀ l', l'.Perm [bW, aW] → SortedF orderF l' → l' = [aW, bW] := fun l' hp hs => by
    rcases perm_two hp with rfl | rfl
    · exact absurd ab_lt (by have := hs; simp [SortedF] at this; simpa using this)
    · rfl
  refine CallP.does (heads_ok 32 J bh bl A ⟨[bW, aW], []⟩ w8 hJ (by simp)) ?_
  rintro v4 w9 ⟨l', hp, hs, hG4, hE9⟩
  rw [sorted2 l' hp hs] at hG4
  have hS4 := hG4.seq
  (conv => whnf)
  refine CallP.does (forks_ok 32 J bh bl A ⟨[bW, aW], []⟩ w9 (hJ.ext hE9) (by simp)) ?_
  rintro v5 w10 ⟨l'', hp, hs, hG5, hE10⟩
  rw [sorted2 l'' hp hs] at hG5
  have hfk : forksF [aW, bW] = [⟨3, h1H 1, h1H 2⟩] := by simp [forksF, forksOf, forkT, aW, bW]
  rw [hfk] at hG5
  have hS5 := hG5.seq
  have hv4 : ∀ c, inBlock v4 c → w8.heap.size ≤ c := fun c hc => (hG4.block hc).1
  have hv5 : ∀ c, inBlock v5 c → w8.heap.size ≤ c := fun c hc => by have := (hG5.block hc).1; have := hE9.size; omega
  have hS4 := hS4.ext hE10
  have hE910 := hE9.trans hE10
  have hs10 := hE910.size
  have hO2 := hO2.ext hE910
  have hO3 := hO3.ext hE910
  have hJ := hJ.ext hE910
  have hE10 := hE8.trans hE910
  obtain ⟨c4, o4, p4, rfl, hc4⟩ := seq_some hS4 (by simp)
  obtain ⟨c5, o5, p5, rfl, hc5⟩ := seq_some hS5 (by simp)
  have hv4 := hv4 c4 ⟨_, _, _, rfl⟩
  have hv5 := hv5 c5 ⟨_, _, _, rfl⟩
  (conv => whnf)
  refine draw_with tyOk mixed (.q 0 (.q 1 (.q 2 (.q 3 (.q 4 (.q 5 (.q 6 (.q 7 (.q 8 (.q 9 (.q 10 (.q 11 (.q 12 (.q 13 (.q 14 (.q 15 (.q 16 (.q 17 (.q 18 (.q 19 (.q 20 (.q 21 (.q 22 (.q 23 (.q 24 (.q 25 (.q 26 (.q 27 (.q 28 (.q 29 (.q 30 (.q 31 (.q 32 (.q 33 (.q 34 (.e [(35, .q 36 (.q 37 (.q 38 (.q 39 (.q 40 (.e [(41, .q 42 (.q 43 (.q 44 (.q 45 (.q 46 (.q 47 (.e [(48, .q 49 (.q 50 (.q 51 (.done))))])))))))]))))))])))))))))))))))))))))))))))))))))))) (by kernel_rfl) (fun w' => Upd bl w10 w') (fun _ h => .of_ext h) ?_
  intro w11 hE11 hs11
  have hO2' : ∀ {w'}, Upd bl w10 w' → CellsAt w' b2 0 (Head.cells aW) := fun h => (hO2.upd h (by omega)).cells
  have hO3' : ∀ {w'}, Upd bl w10 w' → CellsAt w' b3 0 (Head.cells bW) := fun h => (hO3.upd h (by omega)).cells
  (conv => whnf)
  refine GetP.lenS Tryz.runUnderlying50 (hS4.ext hE11) ?_
  (conv => whnf)
  refine CmpP.yes (by simp) ?_
  (conv => whnf)
  refine GetP.idxO (i := 0) Tryz.runUnderlying50 Tryz.sizeOf29 (by simp) ?_
  (conv => whnf)
  refine GetP.ldsS tfHead (Head.len aW) (fun w' hw' => CellsAt.of_seq (i := 0) (hS4.upd hw' (by rintro ⟨_, _, _, hb⟩; cases hb; omega)) rfl) ?_
  (conv => whnf)
  refine GetP.ldsS tfHead (Head.len aW) (fun w' hw' => hO2' hw') ?_
  (conv => whnf)
  refine EqP.eql (val := Head.val) (cs := Head.cells) eqHead (by omega) Tryz.eqGuardType29 (fun _ => rfl) aW aW ?_
  refine CmpP.yes (by simp) ?_
  (conv => whnf)
  refine GetP.idxO (i := 1) Tryz.runUnderlying50 Tryz.sizeOf29 (by simp) ?_
  (conv => whnf)
  refine GetP.ldsS tfHead (Head.len bW) (fun w' hw' => CellsAt.of_seq (i := 1) (hS4.upd hw' (by rintro ⟨_, _, _, hb⟩; cases hb; omega)) rfl) ?_
  (conv => whnf)
  refine GetP.ldsS tfHead (Head.len bW) (fun w' hw' => hO3' hw') ?_
  (conv => whnf)
  refine EqP.eql (val := Head.val) (cs := Head.cells) eqHead (by omega) Tryz.eqGuardType29 (fun _ => rfl) bW bW ?_
  refine CmpP.yes (by simp) ?_
  (conv => whnf)
  refine GetP.lenS Tryz.runUnderlying38 (hS5.ext hE11) ?_
  (conv => whnf)
  refine CmpP.yes (by simp) ?_
  (conv => whnf)
  refine GetP.idxO (i := 0) Tryz.runUnderlying38 Tryz.sizeOf103 (by simp) ?_
  (conv => whnf)
  refine GetP.ldsS tfFork (ForkT.len ⟨3, h1H 1, h1H 2⟩) (fun w' hw' => CellsAt.of_seq (i := 0) (hS5.upd hw' (by rintro ⟨_, _, _, hb⟩; cases hb; omega)) rfl) ?_
  (conv => whnf)
  refine GetP.build (cells := (H.cells (h1H 1)).toArray) (by kernel_rfl) ?_
  (conv => whnf)
  refine GetP.build (cells := (H.cells (h1H 2)).toArray) (by kernel_rfl) ?_
  (conv => whnf)
  refine GetP.build (cells := (ForkT.cells ⟨3, h1H 1, h1H 2⟩).toArray) (by kernel_rfl) ?_
  (conv => whnf)
  refine EqP.eql (val := ForkT.val) (cs := ForkT.cells) eqFork (by omega) Tryz.eqGuardType103 (fun _ => rfl) ⟨3, h1H 1, h1H 2⟩ ⟨3, h1H 1, h1H 2⟩ ?_
  refine CmpP.yes (by simp) ?_
  (conv => whnf)
  refine GetP.ldsS tfHead (Head.len aW) (fun w' hw' => hO2' hw') ?_
  (conv => whnf)
  refine GetP.ldsS tfHead (Head.len aW) (fun w' hw' => hO2' hw') ?_
  (conv => whnf)
  have hJ := hJ.ext hE11
  refine CallP.does (leads_ok 32 J bh bl A ⟨[bW, aW], []⟩ aW aW w11 hJ (by simp)) ?_
  rintro r w12 ⟨⟨B, rfl, hB⟩, hE12⟩
  have hB : B = true := hB.2 ⟨by simp, by simp, .refl _⟩
  subst hB
  (conv => whnf)
  (refine BarP.no ?_)
  refine ReqP.mk (.of_ext (hE11.trans hE12)) ?_
  have hJ := hJ.ext hE12
  have hE12 := hE11.trans hE12
  (conv => whnf)
  refine GetP.ldsS tfHead (Head.len aW) (fun w' hw' => hO2' hw') ?_
  (conv => whnf)
  refine GetP.ldsS tfHead (Head.len bW) (fun w' hw' => hO3' hw') ?_
  (conv => whnf)
  refine CallP.does (leads_ok 32 J bh bl A ⟨[bW, aW], []⟩ aW bW w12 hJ (by simp)) ?_
  rintro r w13 ⟨⟨B, rfl, hB⟩, hE13⟩
  have hB : B = false := by
    cases B with
    | false => rfl
    | true =>
      have h := (hB.1 rfl).2.2
      exact absurd (h.closed (D := [aW]) (by simp) (by simp)) (by simp; exact Ne.symm ab_ne)
  subst hB
  (conv => whnf)
  (refine BarP.no ?_)
  refine ReqP.mk (.of_ext (hE12.trans hE13)) ?_
  have hJ := hJ.ext hE13
  have hE13 := hE12.trans hE13
  (conv => whnf)
  refine GetP.ldsS tfHead (Head.len aW) (fun w' hw' => hO2' hw') ?_
  (conv => whnf)
  refine GetP.build (cells := (Head.cells dW).toArray) (by kernel_rfl) ?_
  (conv => whnf)
  have hgW := hg.ext (hE10.trans hE13)
  refine CallP.does (link_ok 32 J bh bl A ⟨[bW, aW], []⟩ aW dW (.slice none 0 0) [] w13 hgW hJ (by decide) (by decide) (Seq.nil _ _) (by simp) (by simp)) ?_
  rintro r w14 ⟨rfl, hJ, hU14⟩
  have hL : linkE 32 ⟨[bW, aW], []⟩ aW dW [] = 180 := by
    unfold linkE
    rw [if_neg]
    rintro ⟨_, h⟩
    simp only [List.mem_cons, List.not_mem_nil, or_false] at h
    rcases h with h | h
    · have := congrArg Head.n h; simp [dW, bW] at this
    · have := congrArg Head.n h; simp [dW, aW] at this
  rw [hL]
  (conv => whnf)
  (refine BarP.no ?_)
  refine ReqP.mk ((Upd.of_ext hE13).trans hU14) ?_
  (conv => whnf)
  refine CmpP.yes (by simp) ?_
  (conv => whnf)
  exact ⟨rfl, (hE10.trans hE13).upd hU14 (by omega)⟩
end Go.Proofs.YtgeemplpgfiidaaGreatDoor.Mv
