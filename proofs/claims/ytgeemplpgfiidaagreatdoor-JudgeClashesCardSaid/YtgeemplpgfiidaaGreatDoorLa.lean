/- A generator of verification conditions over the model's code, proved sound: the ground of the walks of this claim. No program in sight. -/
import Derived.OrdersHeld
import Derived.Below
import Derived.Tactics
import Derived.Laws.CopyRow
import Derived.Laws.Cells
import Derived.Deep.LoopGhost
import Derived.Scope
import Derived.TacticsIn
import Derived.RangeFuncLeaves
import Derived.RangeFuncRecord
import Derived.RangeFuncIn
import Derived.RangeFuncCalls
namespace Go.Proofs.YtgeemplpgfiidaaGreatDoor.Mv
open Go Go.RowKit

abbrev Env := List (Nat × Value)

def Env.get : Env → Nat → Option Value
  | [], _ => none
  | (j, v) :: r, i => bif Nat.beq j i then some v else Env.get r i

def lookA (E : Env) (i : Nat) (k : Value → Prop) : Prop :=
  match E with
  | [] => False
  | (j, v) :: r => bif Nat.beq j i then k v else lookA r i k

theorem lookA_get {E : Env} {i : Nat} {k : Value → Prop} (h : lookA E i k) : ∃ v, Env.get E i = some v ∧ k v := by
  induction E with
  | nil => exact h.elim
  | cons p r ih =>
    obtain ⟨j, v⟩ := p
    unfold lookA at h
    unfold Env.get
    cases hb : Nat.beq j i
    · rw [hb] at h; exact ih h
    · rw [hb] at h; exact ⟨v, rfl, h⟩

/-- The slots have numbers below a million; under this number the marks of ranges over functions lie. -/
def look (E : Env) (i : Nat) (k : Value → Prop) : Prop := bif Nat.blt i 1000000 then lookA E i k else False
theorem look_get {E : Env} {i : Nat} {k : Value → Prop} (h : look E i k) : ∃ v, (i < 1000000 ∧ Env.get E i = some v) ∧ k v := by
  unfold look at h
  cases hb : Nat.blt i 1000000
  · rw [hb] at h; exact h.elim
  · rw [hb] at h
    obtain ⟨v, h1, h2⟩ := lookA_get h
    exact ⟨v, ⟨Nat.le_of_ble_eq_true hb, h1⟩, h2⟩
def markD (v : Value) : Nat := match v with | .int _ D => D.toNat | _ => 0
def marksOf : Env → List Deferred
  | [] => []
  | (j, v) :: r => bif Nat.beq j 1000000 then { target := .collected (markD v), args := #[] } :: marksOf r else marksOf r

/-- A state agrees with what is known of it. -/
structure Ag (n : Nat) (E : Env) (a : Act) : Prop where
  size : a.tmps.size = n
  small : n ≤ 1000000
  defers : a.defers = marksOf E
  get : ∀ i v, i < 1000000 → Env.get E i = some v → a.tmps[i]? = some v

def putE (n : Nat) (E : Env) (d : Option Tmp) (v : Value) (k : Env → Prop) : Prop :=
  match d with
  | none => k E
  | some d => bif Nat.blt d n then k ((d, v) :: E) else False

theorem Ag.put {n : Nat} {E : Env} {a : Act} (h : Ag n E a) {d : Option Tmp} {v : Value} {k : Env → Prop} (hk : putE n E d v k) :
    ∃ E', Ag n E' (a.put d v) ∧ k E' := by
  cases d with
  | none => exact ⟨E, h, hk⟩
  | some d =>
    simp only [putE] at hk
    cases hb : Nat.blt d n
    · rw [hb] at hk; exact hk.elim
    · rw [hb] at hk
      have hlt : d < n := Nat.le_of_ble_eq_true hb
      have hdm : marksOf ((d, v) :: E) = marksOf E := by
        have hs := h.small
        have : Nat.beq d 1000000 = false := by
          cases hq : Nat.beq d 1000000
          · rfl
          · have := Nat.eq_of_beq_eq_true hq
            have h2 : (1000000 : Nat) < n := this ▸ hlt
            omega
        simp [marksOf, this]
      refine ⟨(d, v) :: E, ⟨by simp [Act.put, h.size], h.small, by rw [hdm]; exact h.defers, ?_⟩, hk⟩
      intro i u hi hu
      simp only [Env.get] at hu
      simp only [Act.put]
      cases hbe : Nat.beq d i
      · rw [hbe] at hu
        have hne : d ≠ i := fun e => by subst e; simp at hbe
        rw [Array.getElem?_setIfInBounds_ne hne]
        exact h.get i u hi hu
      · rw [hbe] at hu
        have he : d = i := Nat.eq_of_beq_eq_true hbe
        subst he
        simp only [cond_true, Option.some.injEq] at hu
        subst hu
        rw [Array.getElem?_setIfInBounds_self]
        simp [h.size, hlt]

/-- What an operand is, in all states that agree. -/
def AgR (E : Env) (ρ : Operand → Value) : Prop :=
  (∀ i v, i < 1000000 → Env.get E i = some v → ρ (.tmp i) = v) ∧ (∀ v, ρ (.const v) = v) ∧ (∀ g, ρ (.global g) = .pointer (some ⟨g, 0, none⟩)) ∧ (∀ f, ρ (.func f) = .func (.func f) #[] #[])

theorem Ag.agR {n : Nat} {E : Env} {a : Act} (h : Ag n E a) : AgR E a.eval := by
  refine ⟨fun i v hi hv => ?_, fun _ => rfl, fun _ => rfl, fun _ => rfl⟩
  have := h.get i v hi hv
  simp [Act.eval, this]

def opd (E : Env) (x : Operand) (k : Value → Prop) : Prop :=
  match x with
  | .tmp t => look E t k
  | .const v => k v
  | .global g => k (.pointer (some ⟨g, 0, none⟩))
  | .func f => k (.func (.func f) #[] #[])

theorem opd_eval {E : Env} {ρ : Operand → Value} (h : AgR E ρ) {x : Operand} {k : Value → Prop} (hk : opd E x k) : k (ρ x) := by
  cases x with
  | tmp t => obtain ⟨v, ⟨hi, hv⟩, hk⟩ := look_get hk; rw [h.1 t v hi hv]; exact hk
  | const v => rw [h.2.1 v]; exact hk
  | global g => rw [h.2.2.1 g]; exact hk
  | func f => rw [h.2.2.2 f]; exact hk

def opds (E : Env) (xs : List Operand) (k : List Value → Prop) : Prop :=
  match xs with
  | [] => k []
  | x :: r => opd E x fun v => opds E r fun vs => k (v :: vs)

theorem opds_eval {E : Env} {ρ : Operand → Value} (h : AgR E ρ) : ∀ {xs : List Operand} {k : List Value → Prop}, opds E xs k → k (xs.map ρ)
  | [], _, hk => hk
  | _ :: r, _, hk => opds_eval h (xs := r) (opd_eval h hk)

def opdps (E : Env) (xs : List (Nat × Operand)) (k : List (Nat × Value) → Prop) : Prop :=
  match xs with
  | [] => k []
  | (i, x) :: r => opd E x fun v => opdps E r fun vs => k ((i, v) :: vs)

theorem opdps_eval {E : Env} {ρ : Operand → Value} (h : AgR E ρ) : ∀ {xs : List (Nat × Operand)} {k : List (Nat × Value) → Prop}, opdps E xs k → k (xs.map fun (i, x) => (i, ρ x))
  | [], _, hk => hk
  | (_, _) :: r, _, hk => opdps_eval h (xs := r) (opd_eval h hk)

def opdo (E : Env) (x : Option Operand) (k : Option Value → Prop) : Prop :=
  match x with
  | none => k none
  | some x => opd E x fun v => k (some v)

theorem opdo_eval {E : Env} {ρ : Operand → Value} (h : AgR E ρ) {x : Option Operand} {k : Option Value → Prop} (hk : opdo E x k) : k (x.map ρ) := by
  cases x with
  | none => exact hk
  | some x => exact opd_eval h hk

/-! Types, as far as they are asked. -/
inductive TD where
  | int (k : IntKind) | bool | str | ptr (e : Nat) | slice (e : Nat) | arr (n e : Nat) | struct (fs : List (Nat × Nat)) | map (k e : Nat) | func | iface | other
structure TI where
  td : TD
  size : Nat
abbrev Tys := List (Nat × TI)

def tyOf (T : Tys) (t : Nat) (k : TI → Prop) : Prop :=
  match T with
  | [] => False
  | (j, i) :: r => bif Nat.beq j t then k i else tyOf r t k

def TI.ok (P : Program) (t : Nat) (i : TI) : Prop :=
  (∃ j, P.info? t = some j ∧ j.size = i.size ∧ ∃ d, P.underlying t = some d) ∧
  match i.td with
  | .int k => P.underlying t = some (.int k)
  | .bool => P.underlying t = some .bool
  | .str => P.underlying t = some .string
  | .ptr e => P.underlying t = some (.pointer e)
  | .slice e => P.underlying t = some (.slice e)
  | .arr n e => P.underlying t = some (.array n e)
  | .struct fs => ∃ fields, P.underlying t = some (.struct fields) ∧ fields.toList.map (fun f => (f.offset, f.type)) = fs
  | .map k e => P.underlying t = some (.map k e)
  | .func => ∃ a b c, P.underlying t = some (.func a b c)
  | .iface => ∃ ms, P.underlying t = some (.interface ms)
  | .other => True

def TyOk (P : Program) : Tys → Prop
  | [] => True
  | (t, i) :: r => TI.ok P t i ∧ TyOk P r

theorem tyOf_ok {P : Program} {T : Tys} (h : TyOk P T) {t : Nat} {k : TI → Prop} (hk : tyOf T t k) : ∃ i, TI.ok P t i ∧ k i := by
  induction T with
  | nil => exact hk.elim
  | cons p r ih =>
    obtain ⟨j, i⟩ := p
    unfold tyOf at hk
    cases hb : Nat.beq j t
    · rw [hb] at hk; exact ih h.2 hk
    · rw [hb] at hk
      have : j = t := Nat.eq_of_beq_eq_true hb
      subst this
      exact ⟨i, h.1, hk⟩

/-! Events: what a proof has to say something about. -/
structure CmpP (b : Bool) (k : Value → Prop) : Prop where
  keep ::
  out : k (.bool b)
theorem CmpP.of {b : Bool} {k : Value → Prop} (c : Bool) (h : b = c) (hk : k (.bool c)) : CmpP b k := by subst h; exact ⟨hk⟩
theorem CmpP.split {b : Bool} {k : Value → Prop} (ht : b = true → k (.bool true)) (hf : b = false → k (.bool false)) : CmpP b k := by
  cases b
  · exact ⟨hf rfl⟩
  · exact ⟨ht rfl⟩
theorem CmpP.yes {b : Bool} {k : Value → Prop} (h : b = true) (ht : k (.bool true)) : CmpP b k := by subst h; exact ⟨ht⟩
theorem CmpP.no {b : Bool} {k : Value → Prop} (h : b = false) (ht : k (.bool false)) : CmpP b k := by subst h; exact ⟨ht⟩

structure NumP (kd : IntKind) (x : Int) (k : Value → Prop) : Prop where
  wrap ::
  out : k (.int kd (kd.wrap x))

/-- The least and the greatest number of a kind. -/
def kmin : IntKind → Int
  | .i8 => -128 | .i16 => -32768 | .i32 => -2147483648 | .i64 => -9223372036854775808 | _ => 0
def kmax : IntKind → Int
  | .i8 => 127 | .i16 => 32767 | .i32 => 2147483647 | .i64 => 9223372036854775807
  | .u8 => 255 | .u16 => 65535 | .u32 => 4294967295 | .u64 => 18446744073709551615
theorem wrap_fit {kd : IntKind} {x : Int} (h0 : kmin kd ≤ x) (h1 : x ≤ kmax kd) : kd.wrap x = x := by
  cases kd <;> simp [kmin, kmax] at h0 h1 <;> simp [IntKind.wrap, IntKind.bits, IntKind.signed] <;> omega
theorem wrap_u64 (x : Int) : IntKind.u64.wrap x = x % 18446744073709551616 := by simp [IntKind.wrap, IntKind.bits, IntKind.signed]
theorem wrap_u32 (x : Int) : IntKind.u32.wrap x = x % 4294967296 := by simp [IntKind.wrap, IntKind.bits, IntKind.signed]
theorem wrap_u8 (x : Int) : IntKind.u8.wrap x = x % 256 := by simp [IntKind.wrap, IntKind.bits, IntKind.signed]
theorem wrap_i64 (x : Int) : IntKind.i64.wrap x = if x % 18446744073709551616 ≥ 9223372036854775808 then x % 18446744073709551616 - 18446744073709551616 else x % 18446744073709551616 := by
  simp [IntKind.wrap, IntKind.bits, IntKind.signed]
theorem NumP.eq {kd : IntKind} {x : Int} {k : Value → Prop} (h : ∀ z, z = kd.wrap x → k (.int kd z)) : NumP kd x k := NumP.wrap (h _ rfl)
theorem NumP.fit {kd : IntKind} {x : Int} {k : Value → Prop} (h0 : kmin kd ≤ x) (h1 : x ≤ kmax kd) (hk : k (.int kd x)) : NumP kd x k := ⟨by rw [wrap_fit h0 h1]; exact hk⟩
theorem NumP.to {kd : IntKind} {x : Int} {k : Value → Prop} (y : Int) (h : kd.wrap x = y) (hk : k (.int kd y)) : NumP kd x k := ⟨by rw [h]; exact hk⟩

structure ReqP (c : Prop) (A : Prop) : Prop where
  req : c
  out : A

/-- A reading instruction: what it yields in every world of S, without turning the world. -/
structure GetP (P : Program) (S : World → Prop) (s : Sem Value) (k : Value → Prop) : Prop where
  out : ∃ v, (∀ w, S w → s.run P w = .ok v w) ∧ k v

structure RunP (P : Program) (w : World) (s : Sem Value) (k : Value → World → Prop) : Prop where
  out : ∃ v w', s.run P w = .ok v w' ∧ k v w'

structure DoP (P : Program) (w : World) (s : Sem Unit) (k : Value → World → Prop) : Prop where
  out : ∃ w', s.run P w = .ok () w' ∧ k undef w'

def Ret (R : Value → World → Prop) (X : List PanicEntry → World → Prop) : Ending → World → Prop
  | .returned v, w => R v w
  | .panicked c, w => X c w
  | .outgrown, _ => False

/-- What becomes of a call, once it is resolved. -/
def NextOk (P : Program) (y : Bool) (k : Value → World → Prop) (X : List PanicEntry → World → Prop) : Result Next → Prop
  | .ok (.value v) w' => k v w'
  | .ok .skip w' => k undef w'
  | .ok (.enter f args) w' => Calls P f args w' (Ret k X)
  | .ok (.round l f tmps assign body) w' => y = true ∧ RoundIn Fence.wide 0 P l f tmps assign body w' (Ret k X)
  | .halt (.panic v) w' => X [{ v, recovered := false }] w'
  | _ => False

structure CallP (P : Program) (f : FuncId) (args : List Value) (w : World) (k : Value → World → Prop) (X : List PanicEntry → World → Prop) : Prop where
  out : NextOk P false k X ((callFunc f args.toArray).run P w)

structure NextP (P : Program) (s : Sem Next) (w : World) (k : Value → World → Prop) (X : List PanicEntry → World → Prop) : Prop where
  out : NextOk P false k X (s.run P w)

/-- A call of the function that a range over a function hands on. -/
structure YieldP (P : Program) (l : Nat) (args : List Value) (w : World) (k : Value → World → Prop) (X : List PanicEntry → World → Prop) : Prop where
  out : ∃ fn tmps assign body, (Instr.yield l args.toArray).run P w = .ok (.round l fn tmps assign body) w ∧ RoundIn Fence.wide 0 P l fn tmps assign body w (Ret k X)

theorem NextOk.lift {P : Program} {y : Bool} {k : Value → World → Prop} {X : List PanicEntry → World → Prop} {r : Result Next} (h : NextOk P false k X r) : NextOk P y k X r := by
  cases r with
  | ok x w' => cases x <;> simp only [NextOk] at h ⊢ <;> first | exact h | (exact absurd h.1 (by simp))
  | halt x w' => cases x <;> simp only [NextOk] at h ⊢; exact h

def nthP (vs : List Value) (i : Nat) (k : Value → Prop) : Prop :=
  match vs, i with
  | [], _ => False
  | v :: _, 0 => k v
  | _ :: r, i + 1 => nthP r i k

theorem nthP_get {vs : List Value} {i : Nat} {k : Value → Prop} (h : nthP vs i k) : ∃ v, vs[i]? = some v ∧ k v := by
  induction vs generalizing i with
  | nil => exact h.elim
  | cons v r ih =>
    cases i with
    | zero => exact ⟨v, rfl, h⟩
    | succ i => exact ih (i := i) h

/-! Operations that only reckon and read. -/
def bitsV (op : BinOp) (kd : IntKind) (x y : Int) : Int :=
  kd.wrap (match op with
    | .and => BitVec.ofInt kd.bits x &&& BitVec.ofInt kd.bits y
    | .or => BitVec.ofInt kd.bits x ||| BitVec.ofInt kd.bits y
    | .xor => BitVec.ofInt kd.bits x ^^^ BitVec.ofInt kd.bits y
    | _ => BitVec.ofInt kd.bits x &&& ~~~ BitVec.ofInt kd.bits y : BitVec kd.bits).toNat

def shlV (kd : IntKind) (x y : Int) : Int := kd.wrap (x * 2 ^ (min y.toNat kd.bits))
def shrV (kd : IntKind) (x y : Int) : Int := x.fdiv (2 ^ (min y.toNat kd.bits))

def sameK (a b : IntKind) (A : Prop) : Prop := match decide (a = b) with | true => A | false => False
theorem sameK_elim {a b : IntKind} {A : Prop} (h : sameK a b A) : a = b ∧ A := by
  unfold sameK at h
  by_cases hab : a = b
  · simp only [hab, decide_true] at h; exact ⟨hab, h⟩
  · simp only [hab, decide_false] at h

def vcInt (op : BinOp) (kd : IntKind) (x : Int) (kd' : IntKind) (y : Int) (k : Value → Prop) : Prop :=
  match op with
  | .shl => ReqP (0 ≤ y) (k (.int kd (shlV kd x y)))
  | .shr => ReqP (0 ≤ y) (k (.int kd (shrV kd x y)))
  | .add => sameK kd kd' (NumP kd (x + y) k)
  | .sub => sameK kd kd' (NumP kd (x - y) k)
  | .mul => sameK kd kd' (NumP kd (x * y) k)
  | .quo => sameK kd kd' (ReqP (y ≠ 0) (NumP kd (x.tdiv y) k))
  | .rem => sameK kd kd' (ReqP (y ≠ 0) (k (.int kd (x.tmod y))))
  | .and => sameK kd kd' (k (.int kd (bitsV .and kd x y)))
  | .or => sameK kd kd' (k (.int kd (bitsV .or kd x y)))
  | .xor => sameK kd kd' (k (.int kd (bitsV .xor kd x y)))
  | .andNot => sameK kd kd' (k (.int kd (bitsV .andNot kd x y)))
  | .eql => sameK kd kd' (CmpP (x == y) k)
  | .neq => sameK kd kd' (CmpP (x != y) k)
  | .lss => sameK kd kd' (CmpP (decide (x < y)) k)
  | .leq => sameK kd kd' (CmpP (decide (x ≤ y)) k)
  | .gtr => sameK kd kd' (CmpP (decide (x > y)) k)
  | .geq => sameK kd kd' (CmpP (decide (x ≥ y)) k)

/-- '==' on other things. -/
structure EqP (P : Program) (S : World → Prop) (op : BinOp) (t : TypeId) (x y : Operand) (a b : Value) (k : Bool → Prop) : Prop where
  out : ∃ r : Bool, (∀ w, S w → (eqGuard op t x y a b).run P w = .ok () w ∧ (binOp op t a b).run P w = .ok (.bool r) w) ∧ k r

def vcBin (P : Program) (S : World → Prop) (op : BinOp) (t : TypeId) (x y : Operand) (a b : Value) (k : Value → Prop) : Prop :=
  match a, b with
  | .int kd n, .int kd' m => vcInt op kd n kd' m k
  | .string s, .string r =>
    match op with
    | .add => ReqP (s.size + r.size ≤ 9223372036854775807) (k (.string (s ++ r)))
    | .eql => CmpP (s.toList == r.toList) k
    | .neq => CmpP (!(s.toList == r.toList)) k
    | _ => False
  | a, b => EqP P S op t x y a b fun r => CmpP r k

def litBool (b : Bool) (A B : Prop) : Prop := match b with | true => A | false => B
theorem litBool_elim {b : Bool} {A B : Prop} (h : litBool b A B) : (b = true ∧ A) ∨ (b = false ∧ B) := by
  cases b
  · exact .inr ⟨rfl, h⟩
  · exact .inl ⟨rfl, h⟩

def quiet (P : Program) (T : Tys) (S : World → Prop) (E : Env) (o : Op) (k : Value → Prop) : Prop :=
  match o with
  | .move x => opd E x k
  | .assign x => opd E x k
  | .pick c a b => opd E c fun cv => match cv with
    | .bool c => litBool c (opd E a k) (opd E b k)
    | _ => False
  | .binOp op t x y _ => opd E x fun a => opd E y fun b => vcBin P S op t x y a b k
  | .unOp op _ x => opd E x fun v => match v with
    | .bool b => match op with
      | .not => litBool b (k (.bool false)) (k (.bool true))
      | _ => False
    | .int kd n => match op with
      | .neg => NumP kd (0 - n) k
      | .xor => k (.int kd (bitsV .xor kd (if kd.signed then -1 else kd.max) n))
      | _ => False
    | _ => False
  | .convert src dst x => opd E x fun v => match v with
    | .int _ n => tyOf T dst fun i => match i.td with
      | .int kd => tyOf T src fun _ => NumP kd n k
      | _ => GetP P S (convert src dst v) k
    | _ => GetP P S (convert src dst v) k
  | .makeInterface t x => opd E x fun v => GetP P S (Instr.makeInterface t v) k
  | .makeFunc fn first captured => opds E first.toList fun a => opds E captured.toList fun b => k (.func fn a.toArray b.toArray)
  | .extract x i => opd E x fun v => match v with
    | .tuple vs => nthP vs.toList i k
    | _ => False
  | .nilCheck x => opd E x fun v => match v with
    | .pointer (some a) => k (.pointer (some a))
    | .func (.func f) a b => k (.func (.func f) a b)
    | _ => False
  | .fieldAddr t x i => opd E x fun v => match v with
    | .pointer (some ⟨b, o, none⟩) => tyOf T t fun ti => match ti.td with
      | .struct fs => match fs[i]? with
        | some (off, ft) => tyOf T ft fun fi => (match fi.size with | 0 => False | _ + 1 => k (.pointer (some ⟨b, o + off, none⟩)))
        | none => False
      | _ => False
    | _ => False
  | .field t x i => opd E x fun v => GetP P S (Instr.field t v i) k
  | .indexAddr t x i => opd E x fun v => opd E i fun j => tyOf T t fun ti => match ti.td with
    | .arr len e => match j with
      | .int _ n => match v with
        | .pointer (some ⟨b, o, none⟩) => tyOf T e fun ei => ReqP (0 ≤ n ∧ n < len) (k (.pointer (some ⟨b, o + n.toNat * ei.size, none⟩)))
        | _ => False
      | _ => False
    | _ => GetP P S (Instr.indexAt t v j) k
  | .index t x i => opd E x fun v => opd E i fun j => GetP P S (Instr.index t v j) k
  | .slice t x lo hi mx => opd E x fun v => opdo E lo fun a => opdo E hi fun b => opdo E mx fun c => GetP P S (Instr.sliceAt t v a b c) k
  | .lookup t x i ok => opd E x fun v => opd E i fun j => GetP P S (Instr.lookup t v j ok) k
  | .typeAssert x t a ok => opd E x fun v => GetP P S (Instr.typeAssert v t a ok) k
  | .build t ps => opdps E ps.toList fun vs => GetP P S (Instr.build t vs.toArray) k
  | .load t a => opd E a fun v => GetP P S (Instr.loadAt t v) k
  | .call { callee := .builtin b, args, argTypes } => opds E args.toList fun vs => match b with
    | .len => GetP P S (Builtin.len_ argTypes 0 vs.toArray) k
    | .cap => GetP P S (Builtin.cap_ argTypes 0 vs.toArray) k
    | .min => GetP P S (Builtin.min_ argTypes 0 vs.toArray) k
    | .max => GetP P S (Builtin.max_ argTypes 0 vs.toArray) k
    | _ => False
  | _ => False

/-! Operations that turn the world, or run code. -/
def callV (P : Program) (y : Bool) (fv : Value) (vs : List Value) (w : World) (k : Value → World → Prop) (X : List PanicEntry → World → Prop) : Prop :=
  match fv with
  | .func (.func f) first captured => CallP P f (first.toList ++ vs ++ captured.toList) w k X
  | .func (.yield l) first captured => litBool y (YieldP P l (first.toList ++ vs) w k X) False
  | _ => NextP P (do let d ← Deferred.ofValue fv vs.toArray; invoke d.target d.args) w k X

def vcOp (P : Program) (T : Tys) (y : Bool) (E : Env) (o : Oper) (w : World) (k : Value → World → Prop) (X : List PanicEntry → World → Prop) : Prop :=
  match o.op with
  | .alloc e => RunP P w (Instr.alloc e true (.tuple #[])) k
  | .box e x => opd E x fun v => RunP P w (Instr.box e v) k
  | .buildSlice t n ps => opdps E ps.toList fun vs => RunP P w (Instr.buildSlice t n vs.toArray) k
  | .makeMap t r => opdo E r fun r => RunP P w (Instr.makeMap t r) k
  | .makeSlice t l c => opd E l fun l => opd E c fun c => RunP P w (Instr.makeSlice t l c) k
  | .store t a x => opd E a fun a => opd E x fun x => DoP P w (Instr.storeAt t a x) k
  | .mapUpdate t m i x => opd E m fun m => opd E i fun i => opd E x fun x => DoP P w (Instr.mapUpdate t m i x) k
  | .insert t m i x => opd E m fun m => opd E i fun i => opd E x fun x => DoP P w (Instr.mapUpdate t m i x) k
  | .mapEntry t m i => opd E m fun m => opd E i fun i => RunP P w (Instr.mapEntry t m i) k
  | .entryStore t m s x => opd E m fun m => opd E s fun s => opd E x fun x => DoP P w (Instr.entryStore t m s x) k
  | .range t x => opd E x fun x => RunP P w (Instr.range t x) k
  | .next it s => opd E it fun it => RunP P w (Instr.next it s o.type) k
  | .entry it => opd E it fun it => RunP P w (Instr.entry it) k
  | .sliceToArrayPointer t x => opd E x fun x => RunP P w (Instr.arrayAt t x) k
  | .panic x => opd E x fun v => NextP P (do pure (.value (← Instr.panic v))) w k X
  | .call { callee := .value f, args, .. } => opd E f fun fv => opds E args.toList fun vs => callV P y fv vs w k X
  | .call { callee := .invoke r name, args, .. } => opd E r fun rv => opds E args.toList fun vs => NextP P (invoke (.fn (.method name) #[]) (rv :: vs).toArray) w k X
  | .call { callee := .builtin b, args, argTypes } => match b with
    | .append => opds E args.toList fun vs => RunP P w (Builtin.append_ argTypes o.type vs.toArray) k
    | .copy => opds E args.toList fun vs => RunP P w (Builtin.copy_ argTypes o.type vs.toArray) k
    | .delete => opds E args.toList fun vs => RunP P w (Builtin.delete_ argTypes o.type vs.toArray) k
    | .clear => opds E args.toList fun vs => RunP P w (Builtin.clear_ argTypes o.type vs.toArray) k
    | _ => quiet P T (fun w' => w' = w) E o.op fun v => k v w
  | _ => quiet P T (fun w' => w' = w) E o.op fun v => k v w

def wantP (all : List Oper) (o : Oper) (E : Env) (A B : Prop) : Prop :=
  match o.guard with
  | none => A
  | some (j, want) => match all[j]? with
    | some oj => match oj.dst with
      | some d => look E d fun v => match v with
        | .bool b => litBool b (litBool want A B) (litBool want B A)
        | .tuple _ => B
        | _ => False
      | none => False
    | none => False

def vcOps (P : Program) (T : Tys) (n : Nat) (all : List Oper) (Q : Exit → Env → World → Prop) (ops : List Oper) : Env → World → Prop :=
  List.rec (motive := fun _ => Env → World → Prop) (fun E w => Q .normal E w)
    (fun o _ ih E w => wantP all o E
      (vcOp P T true E o w (fun v w' => putE n E o.dst v fun E' => ih E' w') (fun c w' => Q (.panic c) E w'))
      (putE n E o.dst undef fun E' => ih E' w)) ops
theorem vcOps_cons {P : Program} {T : Tys} {n : Nat} {all : List Oper} {Q : Exit → Env → World → Prop} {o : Oper} {r : List Oper} {E : Env} {w : World} :
    vcOps P T n all Q (o :: r) E w = wantP all o E
      (vcOp P T true E o w (fun v w' => putE n E o.dst v fun E' => vcOps P T n all Q r E' w') (fun c w' => Q (.panic c) E w'))
      (putE n E o.dst undef fun E' => vcOps P T n all Q r E' w) := rfl

def Oper.dsts : List Oper → List Nat
  | [] => []
  | o :: r => match o.dst with
    | some d => d :: Oper.dsts r
    | none => Oper.dsts r

/-- The slots that a code may write. -/
def wrote : Code → List Nat
  | .region _ ops _ => Oper.dsts ops.toList
  | .seq a b => wrote a ++ wrote b
  | .cond _ a b => wrote a ++ wrote b
  | .block _ c => wrote c
  | .loop c => wrote c
  | .rangeFunc _ ps a b => ps.toList ++ wrote a ++ wrote b
  | .scope c => wrote c
  | _ => []

def Same (ws : List Nat) (a a' : Act) : Prop := ∀ i, i ∉ ws → a'.tmps[i]? = a.tmps[i]?
theorem Same.refl (ws : List Nat) (a : Act) : Same ws a a := fun _ _ => rfl
theorem Same.trans {ws : List Nat} {a b c : Act} (h : Same ws a b) (k : Same ws b c) : Same ws a c := fun i hi => (k i hi).trans (h i hi)
theorem Same.mono {ws ws' : List Nat} {a b : Act} (h : Same ws a b) (hs : ∀ i, i ∈ ws → i ∈ ws') : Same ws' a b := fun i hi => h i fun h' => hi (hs i h')
theorem Same.put {ws : List Nat} {a b : Act} (h : Same ws a b) {d : Option Tmp} (hd : ∀ x, d = some x → x ∈ ws) (v : Value) : Same ws a (b.put d v) := by
  cases d with
  | none => exact h
  | some d =>
    intro i hi
    have hne : d ≠ i := fun e => hi (e ▸ hd d rfl)
    simp only [Act.put]
    rw [Array.getElem?_setIfInBounds_ne hne]
    exact h i hi

def lift (n : Nat) (Q : Exit → Env → World → Prop) (ws : List Nat) (a₀ : Act) (e : Exit) (a : Act) (w : World) : Prop :=
  match e with
  | .panic c => ∃ E, a.defers = marksOf E ∧ Q (.panic c) E w
  | e => ∃ E, Ag n E a ∧ Same ws a₀ a ∧ Q e E w

structure CodeP (P : Program) (n : Nat) (c : Code) (Q : Exit → Env → World → Prop) (E : Env) (w : World) : Prop where
  out : ∀ a, Ag n E a → c.wp P (lift n Q (wrote c) a) a w

structure LoopP (P : Program) (n : Nat) (c : Code) (Q : Exit → Env → World → Prop) (E : Env) (w : World) : Prop where
  out : ∀ a, Ag n E a → (Code.loop c).wp P (lift n Q (wrote c) a) a w

structure DrawP (P : Program) (n : Nat) (id : Nat) (ops : List Oper) (Q : Exit → Env → World → Prop) (E : Env) (w : World) : Prop where
  out : ∀ a, Ag n E a → (Code.region id ops.toArray true).wp P (lift n Q (Oper.dsts ops) a) a w

def blockQ (id : Nat) (Q : Exit → Env → World → Prop) (e : Exit) (E : Env) (w : World) : Prop :=
  match e with
  | .exit j => bif Nat.beq j id then Q .normal E w else Q (.exit j) E w
  | e => Q e E w

/-- Of a scope to whose labels nothing jumps. -/
def scopeQ (Q : Exit → Env → World → Prop) (e : Exit) (E : Env) (w : World) : Prop :=
  match e with
  | .goto _ => False
  | e => Q e E w

def vcCode (P : Program) (T : Tys) (n : Nat) (c : Code) : (Exit → Env → World → Prop) → Env → World → Prop :=
  Code.rec (motive := fun _ => (Exit → Env → World → Prop) → Env → World → Prop)
    (fun Q E w => Q .normal E w)
    (fun id ops draw Q E w => litBool draw (DrawP P n id ops.toList Q E w) (vcOps P T n ops.toList Q ops.toList E w))
    (fun _ _ iha ihb Q E w => iha (fun e E w => match e with | .normal => ihb Q E w | e => Q e E w) E w)
    (fun c _ _ iha ihb Q E w => opd E c fun v => match v with
      | .bool t => litBool t (iha Q E w) (ihb Q E w)
      | _ => False)
    (fun id _ ih Q E w => ih (blockQ id Q) E w)
    (fun c _ Q E w => LoopP P n c Q E w)
    (fun f ps a b _ _ Q E w => CodeP P n (.rangeFunc f ps a b) Q E w)
    (fun id Q E w => Q (.exit id) E w)
    (fun _ ih Q E w => ih (scopeQ Q) E w)
    (fun _ Q E w => Q .normal E w)
    (fun l Q E w => Q (.goto l) E w)
    (fun Q E w => Q .ret E w)
    (fun s Q E w => CodeP P n (.refuse s) Q E w) c
section
variable {P : Program} {T : Tys} {n : Nat} {Q : Exit → Env → World → Prop} {E : Env} {w : World}
theorem vcCode_region {id : Nat} {ops : Array Oper} {draw : Bool} : vcCode P T n (.region id ops draw) Q E w = litBool draw (DrawP P n id ops.toList Q E w) (vcOps P T n ops.toList Q ops.toList E w) := rfl
theorem vcCode_seq {a b : Code} : vcCode P T n (.seq a b) Q E w = vcCode P T n a (fun e E w => match e with | .normal => vcCode P T n b Q E w | e => Q e E w) E w := rfl
theorem vcCode_cond {c : Operand} {a b : Code} : vcCode P T n (.cond c a b) Q E w = opd E c fun v => match v with
    | .bool t => litBool t (vcCode P T n a Q E w) (vcCode P T n b Q E w)
    | _ => False := rfl
theorem vcCode_block {id : Nat} {c : Code} : vcCode P T n (.block id c) Q E w = vcCode P T n c (blockQ id Q) E w := rfl
end

/-! ### Soundness -/
section
variable {P : Program} {T : Tys} {E : Env} {ρ : Operand → Value}

def Yl (P : Program) (S : World → Prop) (s : Sem Next) (k : Value → Prop) : Prop := ∃ v, (∀ w, S w → s.run P w = .ok (.value v) w) ∧ k v

theorem Yl.pure {S : World → Prop} {v : Value} {k : Value → Prop} (hk : k v) : Yl P S (Pure.pure (Next.value v)) k := ⟨v, fun _ _ => rfl, hk⟩
theorem Yl.of_run {S : World → Prop} {s : Sem Value} {v : Value} {k : Value → Prop} (h : ∀ w, S w → s.run P w = .ok v w) (hk : k v) :
    Yl P S (do Pure.pure (Next.value (← s))) k := ⟨v, fun w hw => by simp [h w hw], hk⟩
theorem Yl.of_get {S : World → Prop} {s : Sem Value} {k : Value → Prop} (h : GetP P S s k) : Yl P S (do Pure.pure (Next.value (← s))) k := by
  obtain ⟨v, h, hk⟩ := h.out; exact Yl.of_run h hk

theorem eqGuard_int (op : BinOp) (t : TypeId) (x y : Operand) (kd : IntKind) (n : Int) (b : Value) : eqGuard op t x y (.int kd n) b = Pure.pure () := by cases op <;> rfl
theorem eqGuard_string (op : BinOp) (t : TypeId) (x y : Operand) (s : ByteArray) (b : Value) : eqGuard op t x y (.string s) b = Pure.pure () := by cases op <;> rfl

theorem vcInt_ok {S : World → Prop} {op : BinOp} {t : TypeId} {kd kd' : IntKind} {n m : Int} {k : Value → Prop} (h : vcInt op kd n kd' m k) :
    ∃ v, (∀ w, S w → (binOp op t (.int kd n) (.int kd' m)).run P w = .ok v w) ∧ k v := by
  cases op <;> simp only [vcInt] at h
  case shl => exact ⟨.int kd (shlV kd n m), fun w _ => by simp [binOp, Op.shift, if_neg (show ¬ m < 0 by have := h.req; omega), shlV], h.out⟩
  case shr => exact ⟨.int kd (shrV kd n m), fun w _ => by simp [binOp, Op.shift, if_neg (show ¬ m < 0 by have := h.req; omega), shrV], h.out⟩
  all_goals (have h0 := sameK_elim h; clear h; obtain ⟨rfl, h⟩ := h0)
  case quo => exact ⟨.int kd (kd.wrap (n.tdiv m)), fun w _ => by simp [binOp, Op.intDiv, h.req], h.out.out⟩
  case rem => exact ⟨.int kd (n.tmod m), fun w _ => by simp [binOp, Op.intDiv, h.req], h.out⟩
  case add => exact ⟨.int kd (kd.wrap (n + m)), fun w _ => by simp [binOp, Op.intArith], h.out⟩
  case sub => exact ⟨.int kd (kd.wrap (n - m)), fun w _ => by simp [binOp, Op.intArith], h.out⟩
  case mul => exact ⟨.int kd (kd.wrap (n * m)), fun w _ => by simp [binOp, Op.intArith], h.out⟩
  case and => exact ⟨.int kd (bitsV .and kd n m), fun w _ => by simp only [binOp, ne_eq, not_true_eq_false, if_false, Op.intBits]; rfl, h⟩
  case or => exact ⟨.int kd (bitsV .or kd n m), fun w _ => by simp only [binOp, ne_eq, not_true_eq_false, if_false, Op.intBits]; rfl, h⟩
  case xor => exact ⟨.int kd (bitsV .xor kd n m), fun w _ => by simp only [binOp, ne_eq, not_true_eq_false, if_false, Op.intBits]; rfl, h⟩
  case andNot => exact ⟨.int kd (bitsV .andNot kd n m), fun w _ => by simp only [binOp, ne_eq, not_true_eq_false, if_false, Op.intBits]; rfl, h⟩
  case eql => exact ⟨.bool (n == m), fun w _ => by simp [binOp, Op.intCmp], h.out⟩
  case neq => exact ⟨.bool (n != m), fun w _ => by simp [binOp, Op.intCmp], h.out⟩
  case lss => exact ⟨.bool (decide (n < m)), fun w _ => by simp [binOp, Op.intCmp], h.out⟩
  case leq => exact ⟨.bool (decide (n ≤ m)), fun w _ => by simp [binOp, Op.intCmp], h.out⟩
  case gtr => exact ⟨.bool (decide (n > m)), fun w _ => by simp [binOp, Op.intCmp], h.out⟩
  case geq => exact ⟨.bool (decide (n ≥ m)), fun w _ => by simp [binOp, Op.intCmp], h.out⟩

theorem vcBin_ok {S : World → Prop} {op : BinOp} {t : TypeId} {x y : Operand} {a b : Value} {k : Value → Prop} (h : vcBin P S op t x y a b k) :
    Yl P S (do Pure.pure (Next.value (← (do eqGuard op t x y a b; binOp op t a b)))) k := by
  unfold vcBin at h
  split at h
  · obtain ⟨v, hv, hk⟩ := vcInt_ok (P := P) (S := S) (t := t) h
    exact Yl.of_run (fun w hw => by rw [eqGuard_int]; exact hv w hw) hk
  · split at h
    · exact Yl.of_run (fun w _ => by
        rw [eqGuard_string]
        simp only [binOp, Op.stringOp]
        rw [if_neg (by have := h.req; simp [IntKind.max, IntKind.bits]; omega)]
        rfl) h.out
    · exact Yl.of_run (fun w _ => by rw [eqGuard_string]; simp only [binOp, Op.stringOp]; rfl) h.out
    · exact Yl.of_run (fun w _ => by rw [eqGuard_string]; simp only [binOp, Op.stringOp]; rfl) h.out
    · exact h.elim
  · obtain ⟨r, hr, hk⟩ := h.out
    exact Yl.of_run (fun w hw => by simp [(hr w hw).1, (hr w hw).2]) hk.out
theorem quiet_ok {S : World → Prop} (hT : TyOk P T) (hE : AgR E ρ) {o : Oper} {k : Value → Prop} (h : quiet P T S E o.op k) :
    Yl P S (execOp ρ o) k := by
  obtain ⟨dst, op, type, pos, after, guard⟩ := o
  cases op <;> simp only [quiet] at h <;> simp only [execOp]
  case move x => exact Yl.pure (opd_eval hE h)
  case assign x => exact Yl.pure (opd_eval hE h)
  case pick c a b =>
    have h := opd_eval hE h
    split at h
    · rename_i c hc
      rw [hc]
      rcases litBool_elim h with ⟨rfl, h⟩ | ⟨rfl, h⟩
      · exact ⟨_, fun w _ => by simp [asBool], opd_eval hE h⟩
      · exact ⟨_, fun w _ => by simp [asBool], opd_eval hE h⟩
    · exact h.elim
  case binOp op t x y _ => exact vcBin_ok (opd_eval hE (opd_eval hE h))
  case unOp op t x =>
    have h := opd_eval hE h
    split at h
    · rename_i b hb
      rw [hb]
      split at h
      · rcases litBool_elim h with ⟨rfl, h⟩ | ⟨rfl, h⟩
        · exact Yl.of_run (fun w _ => rfl) h
        · exact Yl.of_run (fun w _ => rfl) h
      · exact h.elim
    · rename_i kd n hb
      rw [hb]
      split at h
      · exact Yl.of_run (v := .int kd (kd.wrap (0 - n))) (fun w _ => by simp [Op.unary, Op.intArith]) h.out
      · exact Yl.of_run (v := .int kd (bitsV .xor kd (if kd.signed then -1 else kd.max) n)) (fun w _ => by simp only [Op.unary, Op.intBits]; rfl) h
      · exact h.elim
    · exact h.elim
  case convert src dst x =>
    have h := opd_eval hE h
    split at h
    · rename_i kd n hb
      rw [hb]
      obtain ⟨i, hi, h⟩ := tyOf_ok hT h
      split at h
      · rename_i kd' htd
        obtain ⟨i', hi', h⟩ := tyOf_ok hT h
        obtain ⟨_, hu⟩ := hi
        rw [htd] at hu
        obtain ⟨⟨j', hj', _, d, hd⟩, _⟩ := hi'
        exact Yl.of_run (v := .int kd' (kd'.wrap n)) (fun w _ => by simp [convert, underlying, hu, hd, Conv.intToInt]) h.out
      · rw [hb] at h; exact Yl.of_get h
    · exact Yl.of_get h
  case makeInterface t x => exact Yl.of_get (opd_eval hE h)
  case makeFunc fn first captured =>
    have h := opds_eval hE (opds_eval hE h)
    refine Yl.of_run (fun w _ => ?_) h
    simp [Instr.makeFunc, ← Array.toList_map]
  case extract x i =>
    have h := opd_eval hE h
    split at h
    · rename_i vs hv
      rw [hv]
      obtain ⟨v, hv, h⟩ := nthP_get h
      refine Yl.of_run (fun w _ => ?_) h
      simp only [Instr.extract]
      have : vs[i]? = some v := by simpa using hv
      simp [this]
    · exact h.elim
  case nilCheck x =>
    have h := opd_eval hE h
    split at h
    · rename_i a ha
      rw [ha]
      exact ⟨_, fun w _ => rfl, h⟩
    · rename_i f a b ha
      rw [ha]
      exact ⟨_, fun w _ => rfl, h⟩
    · exact h.elim
  case fieldAddr t x i =>
    have h := opd_eval hE h
    split at h
    · rename_i b o ha
      rw [ha]
      obtain ⟨ti, hti, h⟩ := tyOf_ok hT h
      split at h
      · rename_i fs htd
        obtain ⟨_, hu⟩ := hti
        rw [htd] at hu
        obtain ⟨fields, hu, hf⟩ := hu
        split at h
        · rename_i off ft hfs
          obtain ⟨fi, hfi, h2⟩ := tyOf_ok hT h
          clear h
          split at h2
          · exact h2.elim
          · rename_i n hn
            obtain ⟨⟨j, hj, hsz, _⟩, _⟩ := hfi
            rw [← hf, List.getElem?_map, Option.map_eq_some_iff] at hfs
            obtain ⟨f, hfget, hfe⟩ := hfs
            obtain ⟨rfl, rfl⟩ := Prod.mk.inj hfe
            refine Yl.of_run (fun w _ => ?_) h2
            have hg : fields[i]? = some f := by simpa using hfget
            have hne : ¬ (j.size = 0) := by omega
            simp [Instr.fieldAt, underlying, hu, hg, Instr.sureAddr, fieldPlace, sizeOf, typeInfo, hj, hne]
            by_cases h0 : f.offset = 0
            · simp [Addr.add, h0]
            · simp [Addr.add, h0]
        · exact h.elim
      · exact h.elim
    · exact h.elim
  case field t x i => exact Yl.of_get (opd_eval hE h)
  case indexAddr t x i =>
    have h := opd_eval hE (opd_eval hE h)
    obtain ⟨ti, hti, h⟩ := tyOf_ok hT h
    split at h
    · rename_i len e htd
      obtain ⟨_, hu⟩ := hti
      rw [htd] at hu
      split at h
      · rename_i kd n hj
        rw [hj]
        split at h
        · rename_i b o hx
          rw [hx]
          obtain ⟨ei, hei, h⟩ := tyOf_ok hT h
          obtain ⟨⟨j, hj, hsz, _⟩, _⟩ := hei
          refine Yl.of_run (fun w _ => ?_) h.out
          simp [Instr.indexAt, asIntOf, underlying, hu, h.req.1, h.req.2, sizeOf, typeInfo, hj, hsz, Instr.sureAddr]
          by_cases h0 : n.toNat * ei.size = 0
          · simp only [Addr.add, h0, if_true, Nat.add_zero]
          · simp only [Addr.add, h0, if_false]
        · exact h.elim
      · exact h.elim
    · exact Yl.of_get h
  case index t x i => exact Yl.of_get (opd_eval hE (opd_eval hE h))
  case slice t x lo hi mx => exact Yl.of_get (opdo_eval hE (opdo_eval hE (opdo_eval hE (opd_eval hE h))))
  case lookup t x i ok => exact Yl.of_get (opd_eval hE (opd_eval hE h))
  case typeAssert x t a ok => exact Yl.of_get (opd_eval hE h)
  case build t ps =>
    have h := opdps_eval hE h
    have he : (ps.map fun (i, x) => (i, ρ x)) = (ps.toList.map fun (i, x) => (i, ρ x)).toArray := by simp [← Array.toList_map]
    rw [he]
    exact Yl.of_get h
  case load t a => exact Yl.of_get (opd_eval hE h)
  case call c =>
    obtain ⟨callee, args, argTypes⟩ := c
    cases callee with
    | value f => exact h.elim
    | invoke r m => exact h.elim
    | builtin b =>
      have h := opds_eval hE h
      have he : (args.toList.map ρ).toArray = args.map ρ := by simp [← Array.toList_map]
      cases b <;> simp only at h <;> try exact h.elim
      all_goals
        obtain ⟨v, hv, hk⟩ := h.out
        rw [he] at hv
        refine ⟨v, fun w hw => ?_, hk⟩
        have hr := hv w hw
        simp only [resolve, invoke, builtin, Sem.run_bind, Sem.run_pure, Result.andThen_ok]
        exact (congrArg (fun r => Result.andThen r fun a w' => Result.ok (Next.value a) w') hr)
  all_goals exact h.elim
theorem NextOk.of_yl {y : Bool} {w : World} {s : Sem Next} {k : Value → World → Prop} {X : List PanicEntry → World → Prop} (h : Yl P (fun w' => w' = w) s fun v => k v w) :
    NextOk P y k X (s.run P w) := by
  obtain ⟨v, hv, hk⟩ := h
  rw [hv w rfl]
  exact hk
theorem NextOk.of_runP {y : Bool} {w : World} {s : Sem Value} {k : Value → World → Prop} {X : List PanicEntry → World → Prop} (h : RunP P w s k) :
    NextOk P y k X ((do Pure.pure (Next.value (← s)) : Sem Next).run P w) := by
  obtain ⟨v, w', hv, hk⟩ := h.out
  simp only [Sem.run_bind, hv, Result.andThen_ok, Sem.run_pure]
  exact hk
theorem NextOk.of_doP {y : Bool} {w : World} {s : Sem Unit} {k : Value → World → Prop} {X : List PanicEntry → World → Prop} (h : DoP P w s k) :
    NextOk P y k X ((do s; Pure.pure Next.skip : Sem Next).run P w) := by
  obtain ⟨w', hv, hk⟩ := h.out
  simp only [Sem.run_bind, hv, Result.andThen_ok, Sem.run_pure]
  exact hk

theorem callV_ok {y : Bool} {fv : Value} {vs : List Value} {w : World} {k : Value → World → Prop} {X : List PanicEntry → World → Prop} (h : callV P y fv vs w k X) :
    NextOk P y k X ((do let d ← Deferred.ofValue fv vs.toArray; invoke d.target d.args : Sem Next).run P w) := by
  unfold callV at h
  split at h
  · rename_i f first captured
    have h := h.out
    simp only [Deferred.ofValue, Sem.run_bind, Sem.run_pure, Result.andThen_ok, invoke]
    have he : (first.toList ++ vs ++ captured.toList).toArray = first ++ vs.toArray ++ captured := by simp
    rw [he] at h
    exact h.lift
  · rename_i l first captured
    rcases litBool_elim h with ⟨rfl, h⟩ | ⟨_, h⟩
    · obtain ⟨fn, tmps, as, bd, hr, hR⟩ := h.out
      simp only [Deferred.ofValue, Sem.run_bind, Sem.run_pure, Result.andThen_ok, invoke]
      have he : (first.toList ++ vs).toArray = first ++ vs.toArray := by simp
      rw [he] at hr
      rw [hr]
      exact ⟨rfl, hR⟩
    · exact h.elim
  · exact h.out.lift

theorem vcOp_ok {y : Bool} (hT : TyOk P T) (hE : AgR E ρ) {o : Oper} {w : World} {k : Value → World → Prop} {X : List PanicEntry → World → Prop}
    (h : vcOp P T y E o w k X) : NextOk P y k X ((execOp ρ o).run P w) := by
  have hq : quiet P T (fun w' => w' = w) E o.op (fun v => k v w) → NextOk P y k X ((execOp ρ o).run P w) := fun h => NextOk.of_yl (quiet_ok hT hE h)
  obtain ⟨dst, op, type, pos, after, guard⟩ := o
  cases op <;> simp only [vcOp] at h <;> try exact hq h
  case alloc e => exact NextOk.of_runP h
  case box e x => exact NextOk.of_runP (opd_eval hE h)
  case buildSlice t n ps =>
    have h := opdps_eval hE h
    have he : (ps.map fun (i, x) => (i, ρ x)) = (ps.toList.map fun (i, x) => (i, ρ x)).toArray := by simp [← Array.toList_map]
    simp only [execOp]
    rw [he]
    exact NextOk.of_runP h
  case makeMap t r => exact NextOk.of_runP (opdo_eval hE h)
  case makeSlice t l c => exact NextOk.of_runP (opd_eval hE (opd_eval hE h))
  case store t a x => exact NextOk.of_doP (opd_eval hE (opd_eval hE h))
  case mapUpdate t m i x => exact NextOk.of_doP (opd_eval hE (opd_eval hE (opd_eval hE h)))
  case insert t m i x => exact NextOk.of_doP (opd_eval hE (opd_eval hE (opd_eval hE h)))
  case mapEntry t m i => exact NextOk.of_runP (opd_eval hE (opd_eval hE h))
  case entryStore t m s x => exact NextOk.of_doP (opd_eval hE (opd_eval hE (opd_eval hE h)))
  case range t x => exact NextOk.of_runP (opd_eval hE h)
  case next it s => exact NextOk.of_runP (opd_eval hE h)
  case entry it => exact NextOk.of_runP (opd_eval hE h)
  case sliceToArrayPointer t x => exact NextOk.of_runP (opd_eval hE h)
  case panic x => exact (opd_eval hE h).out.lift
  case call c =>
    obtain ⟨callee, args, argTypes⟩ := c
    have he : (args.toList.map ρ).toArray = args.map ρ := by simp [← Array.toList_map]
    cases callee with
    | value f =>
      have h := callV_ok (opds_eval hE (opd_eval hE h))
      rw [he] at h
      simp only [execOp, resolve]
      exact h
    | invoke r m =>
      have h := (opds_eval hE (opd_eval hE h)).out
      have he' : (ρ r :: args.toList.map ρ).toArray = #[ρ r] ++ args.map ρ := by rw [← he]; simp
      rw [he'] at h
      simp only [execOp, resolve, Sem.run_bind, Sem.run_pure, Result.andThen_ok]
      exact h.lift
    | builtin b =>
      cases b <;> simp only at h <;> try exact hq h
      all_goals
        have h := opds_eval hE h
        rw [he] at h
        simp only [execOp, resolve, invoke, builtin]
        exact NextOk.of_runP h

theorem upon_of_nextOk {o : Oper} {a : Act} {next : Act → World → Prop} {Q : Exit → Act → World → Prop} {r : Result Next}
    (h : NextOk P false (fun v w' => next (a.put o.dst v) w') (fun c w' => Q (.panic c) a w') r) : o.upon P a next Q r := by
  cases r with
  | ok x w' =>
    cases x <;> simp only [NextOk] at h <;> simp only [Oper.upon]
    case value v => exact h
    case skip => exact h
    case enter f args =>
      refine Calls.mono h fun e w'' he => ?_
      cases e with
      | returned v => exact he
      | panicked c => exact he
      | outgrown => exact he.elim
    case round => exact absurd h.1 (by simp)
  | halt x w' =>
    cases x <;> simp only [NextOk] at h <;> first | exact h | exact h.elim

/-- Everything is let in; r: in which range over a function a round is. -/
def wr (r : Option Nat) : Fence := { Fence.wide with round := r }
theorem callsIn_wr {r : Option Nat} {m : Nat} {f : FuncId} {args : Array Value} {w : World} {R : Ending → World → Prop} (h : Calls P f args w R) : CallsIn (wr r) m P f args w R := by
  have h1 : CallsIn Fence.wide m P f args w R := callsIn_wide.2 h
  cases r with
  | none => exact h1
  | some l => exact h1.inRound l
theorem roundIn_wr {r : Option Nat} {m l f : Nat} {tmps : Array Value} {assign body : Code} {w : World} {R : Ending → World → Prop} (h : RoundIn Fence.wide 0 P l f tmps assign body w R) : RoundIn (wr r) m P l f tmps assign body w R :=
  ⟨trivial, fun c cs _ => h.2 c cs (room_wide _)⟩
theorem uponIn_of_nextOk {y : Bool} {ro : Option Nat} {m : Nat} {o : Oper} {a : Act} {next : Act → World → Prop} {Q : Exit → Act → World → Prop} {r : Result Next}
    (h : NextOk P y (fun v w' => next (a.put o.dst v) w') (fun c w' => Q (.panic c) a w') r) : o.uponIn (wr ro) m P a next Q r := by
  cases r with
  | ok x w' =>
    cases x <;> simp only [NextOk] at h <;> simp only [Oper.uponIn]
    case value v => exact h
    case skip => exact h
    case enter f args =>
      refine ⟨fun hd => by simp [wr, Fence.wide] at hd, callsIn_wr (Calls.mono h fun e w'' he => ?_)⟩
      cases e with
      | returned v => exact he
      | panicked c => exact he
      | outgrown => exact he.elim
    case round l f tmps as bd =>
      refine ⟨fun hd => by simp [wr, Fence.wide] at hd, roundIn_wr (h.2.mono fun e w'' he => ?_)⟩
      cases e with
      | returned v => exact he
      | panicked c => exact he
      | outgrown => exact he.elim
  | halt x w' =>
    cases x <;> simp only [NextOk] at h <;> first | exact h | exact h.elim
theorem vcOp_nodefer {y : Bool} {o : Oper} {w : World} {k : Value → World → Prop} {X : List PanicEntry → World → Prop} (h : vcOp P T y E o w k X) : ∀ c, o.op ≠ .defer c := by
  intro c hc
  obtain ⟨dst, op, type, pos, after, guard⟩ := o
  simp only at hc
  subst hc
  exact h

theorem wantP_ok {n : Nat} {a : Act} {all : List Oper} {o : Oper} {A B : Prop} (hA : Ag n E a) (h : wantP all o E A B) :
    (Region.wanted o (yielded all.toArray a.tmps) = true ∧ A) ∨ (Region.wanted o (yielded all.toArray a.tmps) = false ∧ B) := by
  unfold wantP at h
  split at h
  · rename_i hg
    exact .inl ⟨by simp [Region.wanted, hg], h⟩
  · rename_i j want hg
    split at h
    · rename_i oj hoj
      split at h
      · rename_i d hd
        obtain ⟨v, ⟨hi, hv⟩, h⟩ := look_get h
        split at h
        · rename_i b
          have hy : yielded all.toArray a.tmps j = some b := by
            have h1 : all.toArray[j]? = some oj := by simpa using hoj
            simp [yielded, h1, hd, hA.get d _ hi hv]
          have hw : Region.wanted o (yielded all.toArray a.tmps) = (b == want) := by simp [Region.wanted, hg, hy]
          rw [hw]
          cases b <;> cases want <;> simp only [litBool] at h
          · exact .inl ⟨rfl, h⟩
          · exact .inr ⟨rfl, h⟩
          · exact .inr ⟨rfl, h⟩
          · exact .inl ⟨rfl, h⟩
        · rename_i l
          have hy : yielded all.toArray a.tmps j = none := by
            have h1 : all.toArray[j]? = some oj := by simpa using hoj
            simp [yielded, h1, hd, hA.get d _ hi hv]
          exact .inr ⟨by simp [Region.wanted, hg, hy], h⟩
        · exact h.elim
      · exact h.elim
    · exact h.elim

theorem vcOps_ok (hT : TyOk P T) {ro : Option Nat} {m n : Nat} {all : List Oper} {Q : Exit → Env → World → Prop} {ws : List Nat} {a₀ : Act} : ∀ (ops : List Oper) (E : Env) (w : World) (a : Act),
    (∀ i, i ∈ Oper.dsts ops → i ∈ ws) → Same ws a₀ a → vcOps P T n all Q ops E w → Ag n E a → wpListIn (wr ro) m P all.toArray (lift n Q ws a₀) ops a w
  | [], E, w, a, _, hS, h, hA => by unfold wpListIn; exact ⟨E, hA, hS, h⟩
  | o :: r, E, w, a, hsub, hS, h, hA => by
    have hd : ∀ x, o.dst = some x → x ∈ ws := fun x hx => hsub x (by simp [Oper.dsts, hx])
    have hr : ∀ i, i ∈ Oper.dsts r → i ∈ ws := fun i hi => hsub i (by
      simp only [Oper.dsts]
      split
      · exact List.mem_cons_of_mem _ hi
      · exact hi)
    unfold wpListIn
    rw [vcOps_cons] at h
    rcases wantP_ok hA h with ⟨hw, h⟩ | ⟨hw, h⟩
    · rw [if_pos hw]
      unfold Oper.wpIn
      refine ⟨fun _ _ => trivial, ?_⟩
      rw [Oper.semAt_eq _ _ _ (vcOp_nodefer h)]
      refine uponIn_of_nextOk (y := true) ?_
      have h1 := vcOp_ok hT hA.agR h
      revert h1
      generalize (execOp a.eval o).run P w = res
      intro h1
      have hk : ∀ v w', (putE n E o.dst v fun E' => vcOps P T n all Q r E' w') → wpListIn (wr ro) m P all.toArray (lift n Q ws a₀) r (a.put o.dst v) w' := fun v w' hp => by
        obtain ⟨E', hA', hp⟩ := hA.put hp
        exact vcOps_ok hT r E' w' _ hr (hS.put hd v) hp hA'
      cases res with
      | ok x w' =>
        cases x <;> simp only [NextOk] at h1 ⊢
        case value v => exact hk _ _ h1
        case skip => exact hk _ _ h1
        case enter f args =>
          refine Calls.mono h1 fun e w'' he => ?_
          cases e with
          | returned v => exact hk _ _ he
          | panicked c => exact ⟨E, hA.defers, he⟩
          | outgrown => exact he.elim
        case round l f tmps as bd =>
          refine ⟨by trivial, h1.2.mono fun e w'' he => ?_⟩
          cases e with
          | returned v => exact hk _ _ he
          | panicked c => exact ⟨E, hA.defers, he⟩
          | outgrown => exact he.elim
      | halt x w' =>
        cases x <;> simp only [NextOk] at h1 ⊢
        case panic v => exact ⟨E, hA.defers, h1⟩
    · rw [if_neg (by simp [hw])]
      obtain ⟨E', hA', hp⟩ := hA.put h
      exact ⟨fun _ _ => trivial, vcOps_ok hT r E' w _ hr (hS.put hd _) hp hA'⟩

theorem lift_widen {n : Nat} {Q : Exit → Env → World → Prop} {ws ws' : List Nat} {a₀ a₁ : Act} (hs : ∀ i, i ∈ ws → i ∈ ws') (hS : Same ws' a₀ a₁) {e : Exit} {a : Act} {w : World}
    (h : lift n Q ws a₁ e a w) : lift n Q ws' a₀ e a w := by
  cases e with
  | panic c => exact h
  | _ => obtain ⟨E, hA, hS', hq⟩ := h; exact ⟨E, hA, hS.trans (hS'.mono hs), hq⟩

/-- Code that a round of a range over a function may have. -/
def okR : Code → Bool
  | .region _ _ draw => !draw
  | .seq a b => okR a && okR b
  | .cond _ a b => okR a && okR b
  | .block _ c => okR c
  | .skip | .exit _ | .ret | .label _ | .goto _ => true
  | _ => false
theorem lift_mono {n : Nat} {Q Q' : Exit → Env → World → Prop} {ws : List Nat} {a₀ : Act} {e : Exit} {a : Act} {w : World} (h : lift n Q ws a₀ e a w) (hq : ∀ E, Q e E w → Q' e E w) : lift n Q' ws a₀ e a w := by
  cases e with
  | panic c => obtain ⟨E, h1, h2⟩ := h; exact ⟨E, h1, hq E h2⟩
  | _ => obtain ⟨E, h1, h2, h3⟩ := h; exact ⟨E, h1, h2, hq E h3⟩
theorem vcCode_okIn (hT : TyOk P T) {ro : Option Nat} {m n : Nat} {ws : List Nat} {a₀ : Act} : ∀ (c : Code) (Q : Exit → Env → World → Prop) (E : Env) (w : World) (a : Act), (ro = none ∨ okR c = true) →
    (∀ i, i ∈ wrote c → i ∈ ws) → Same ws a₀ a → vcCode P T n c Q E w → Ag n E a → c.wpIn (wr ro) m P (lift n Q ws a₀) a w := by
  intro c
  induction c with
  | skip => intro Q E w a _ _ hS h hA; exact wpIn_skip ⟨E, hA, hS, h⟩
  | region id ops draw =>
    intro Q E w a hc hsub hS h hA
    simp only [vcCode] at h
    rcases litBool_elim h with ⟨rfl, h⟩ | ⟨rfl, h⟩
    · rcases hc with rfl | hc
      · have := wp_mono (h.out a hA) fun e a w hl => lift_widen hsub hS hl
        exact wpIn_wide.2 (by simpa using this)
      · simp [okR] at hc
    · have := wpIn_region_lit (id := id) (vcOps_ok (ro := ro) (m := m) hT ops.toList E w a hsub hS h hA)
      simpa using this
  | seq x y ihx ihy =>
    intro Q E w a hc hsub hS h hA
    simp only [vcCode] at h
    have hcx : ro = none ∨ okR x = true := hc.imp id (fun h => by simp [okR] at h; exact h.1)
    have hcy : ro = none ∨ okR y = true := hc.imp id (fun h => by simp [okR] at h; exact h.2)
    refine wpIn_seq (wpIn_mono (ihx _ E w a hcx (fun i hi => hsub i (List.mem_append_left _ hi)) hS h hA) ?_)
    intro e a' w' hl
    cases e with
    | panic c => exact hl
    | normal => obtain ⟨E', hA', hS', hq⟩ := hl; exact ihy Q E' w' a' hcy (fun i hi => hsub i (List.mem_append_right _ hi)) hS' hq hA'
    | _ => exact hl
  | cond c x y ihx ihy =>
    intro Q E w a hc hsub hS h hA
    simp only [vcCode] at h
    have hcx : ro = none ∨ okR x = true := hc.imp id (fun h => by simp [okR] at h; exact h.1)
    have hcy : ro = none ∨ okR y = true := hc.imp id (fun h => by simp [okR] at h; exact h.2)
    have h := opd_eval hA.agR h
    split at h
    · rename_i t ht
      rcases litBool_elim h with ⟨rfl, h⟩ | ⟨rfl, h⟩
      · exact wpIn_cond_true ht (ihx Q E w a hcx (fun i hi => hsub i (List.mem_append_left _ hi)) hS h hA)
      · exact wpIn_cond_false ht (ihy Q E w a hcy (fun i hi => hsub i (List.mem_append_right _ hi)) hS h hA)
    · exact h.elim
  | block id c ih =>
    intro Q E w a hc hsub hS h hA
    simp only [vcCode] at h
    refine wpIn_block (wpIn_mono (ih _ E w a (hc.imp (fun h => h) (fun h => by simpa [okR] using h)) hsub hS h hA) ?_)
    intro e a' w' hl
    cases e with
    | exit j =>
      obtain ⟨E', hA', hS', hq⟩ := hl
      simp only [blockQ] at hq
      simp only [Exit.inBlock]
      cases hb : Nat.beq j id
      · rw [hb] at hq
        have hne : j ≠ id := fun he => by subst he; simp at hb
        rw [if_neg hne]
        exact ⟨E', hA', hS', hq⟩
      · rw [hb] at hq
        rw [if_pos (Nat.eq_of_beq_eq_true hb)]
        exact ⟨E', hA', hS', hq⟩
    | _ => exact hl
  | loop c ih =>
    intro Q E w a hc hsub hS h hA
    rcases hc with rfl | hc
    · exact wpIn_wide.2 (wp_mono (h.out a hA) fun e a w hl => lift_widen hsub hS hl)
    · simp [okR] at hc
  | exit id => intro Q E w a _ _ hS h hA; exact wpIn_exit ⟨E, hA, hS, h⟩
  | ret => intro Q E w a _ _ hS h hA; exact wpIn_ret ⟨E, hA, hS, h⟩
  | rangeFunc =>
    intro Q E w a hc hsub hS h hA
    rcases hc with rfl | hc
    · exact wpIn_wide.2 (wp_mono (h.out a hA) fun e a w hl => lift_widen hsub hS hl)
    · simp [okR] at hc
  | scope c ih =>
    intro Q E w a hc hsub hS h hA
    rcases hc with rfl | hc
    · simp only [vcCode] at h
      refine wpIn_wide.2 (wp_scope_straight (wp_mono (wpIn_wide.1 (ih (scopeQ Q) E w a (.inl rfl) hsub hS h hA)) ?_))
      intro e a' w' hl
      cases e with
      | goto l => obtain ⟨_, _, _, hq⟩ := hl; exact hq
      | _ => exact hl
    · simp [okR] at hc
  | label l => intro Q E w a _ _ hS h hA; exact wpIn_label ⟨E, hA, hS, h⟩
  | goto l => intro Q E w a _ _ hS h hA; exact wpIn_goto ⟨E, hA, hS, h⟩
  | refuse =>
    intro Q E w a hc hsub hS h hA
    rcases hc with rfl | hc
    · exact wpIn_wide.2 (wp_mono (h.out a hA) fun e a w hl => lift_widen hsub hS hl)
    · simp [okR] at hc
theorem vcCode_ok (hT : TyOk P T) {n : Nat} {ws : List Nat} {a₀ : Act} (c : Code) (Q : Exit → Env → World → Prop) (E : Env) (w : World) (a : Act)
    (h1 : ∀ i, i ∈ wrote c → i ∈ ws) (h2 : Same ws a₀ a) (h3 : vcCode P T n c Q E w) (h4 : Ag n E a) : c.wp P (lift n Q ws a₀) a w :=
  wpIn_wide.1 (vcCode_okIn hT (ro := none) (m := 0) c Q E w a (.inl rfl) h1 h2 h3 h4)
end

/-! ### Loops -/
/-- What is kept of a state at a loop's head: the slots that the loop does not write. -/
def dropE : Env → List Nat → Env
  | [], _ => []
  | (j, v) :: r, ds => bif ds.any (Nat.beq j) then dropE r ds else (j, v) :: dropE r ds

theorem dropE_get {ds : List Nat} : ∀ {E : Env} {i : Nat} {v : Value}, (∀ d, d ∈ ds → d ≠ i) → Env.get (dropE E ds) i = Env.get E i
  | [], _, _, _ => rfl
  | (j, u) :: r, i, v, h => by
    simp only [dropE]
    cases hb : ds.any (Nat.beq j)
    · simp only [cond_false, Env.get]
      rw [dropE_get (v := v) h]
    · simp only [cond_true, Env.get]
      have : Nat.beq j i = false := by
        rw [List.any_eq_true] at hb
        obtain ⟨d, hd, hbe⟩ := hb
        have : j = d := Nat.eq_of_beq_eq_true hbe
        subst this
        have := h j hd
        cases hq : Nat.beq j i
        · rfl
        · exact absurd (Nat.eq_of_beq_eq_true hq) this
      rw [this, cond_false]
      exact dropE_get (v := v) h

/-- Every slot of the one list holds what the other says; the marks are the same. -/
def HoldsM (E V₀ : Env) : Env → Prop
  | [] => marksOf V₀ = marksOf E ∧ True
  | (i, v) :: r => Env.get E i = some v ∧ HoldsM E V₀ r
def Holds (E V : Env) : Prop := HoldsM E V V
theorem holdsM_marks {E V₀ : Env} : ∀ {V : Env}, HoldsM E V₀ V → marksOf V₀ = marksOf E
  | [], h => h.1
  | _ :: _, h => holdsM_marks h.2
theorem holds_marks {E V : Env} (h : Holds E V) : marksOf V = marksOf E := holdsM_marks h

theorem Ag.weaken {n : Nat} {E E' : Env} {a : Act} (h : Ag n E a) (hs : ∀ i v, Env.get E' i = some v → Env.get E i = some v) (hm : marksOf E' = marksOf E) : Ag n E' a :=
  ⟨h.size, h.small, by rw [hm]; exact h.defers, fun i v hi hv => h.get i v hi (hs i v hv)⟩

theorem holdsM_get {E V₀ : Env} : ∀ {V : Env}, HoldsM E V₀ V → ∀ i v, Env.get V i = some v → Env.get E i = some v
  | [], _, _, _, h => by simp [Env.get] at h
  | (j, u) :: r, hH, i, v, h => by
    simp only [Env.get] at h
    cases hb : Nat.beq j i
    · rw [hb] at h; exact holdsM_get hH.2 i v h
    · rw [hb] at h
      have : j = i := Nat.eq_of_beq_eq_true hb
      subst this
      simp only [cond_true, Option.some.injEq] at h
      subst h
      exact hH.1
theorem holds_get {E V : Env} (h : Holds E V) : ∀ i v, Env.get V i = some v → Env.get E i = some v := holdsM_get h

theorem get_append {V R : Env} {i : Nat} {v : Value} (h : Env.get (V ++ R) i = some v) : Env.get V i = some v ∨ Env.get R i = some v := by
  induction V with
  | nil => exact .inr h
  | cons p r ih =>
    obtain ⟨j, u⟩ := p
    simp only [List.cons_append, Env.get] at h ⊢
    cases hb : Nat.beq j i
    · rw [hb] at h; exact ih h
    · rw [hb] at h; exact .inl h

theorem dropE_mem {ds : List Nat} {i : Nat} (hi : i ∈ ds) : ∀ {E : Env}, Env.get (dropE E ds) i = none
  | [] => rfl
  | (j, u) :: r => by
    simp only [dropE]
    cases hb : ds.any (Nat.beq j)
    · simp only [cond_false, Env.get]
      have : Nat.beq j i = false := by
        cases hq : Nat.beq j i
        · rfl
        · have := Nat.eq_of_beq_eq_true hq
          subst this
          have : ds.any (Nat.beq j) = true := List.any_eq_true.2 ⟨j, hi, hq⟩
          rw [hb] at this
          cases this
      rw [this, cond_false]
      exact dropE_mem hi
    · simp only [cond_true]
      exact dropE_mem hi

/-- The same, where V names every slot that is looked at from here on. -/
theorem loop_only {P : Program} {T : Tys} (hT : TyOk P T) {n : Nat} {c : Code} {Q : Exit → Env → World → Prop} {E : Env} {w : World} {σ : Type}
    (V : σ → Env) (I : σ → World → Prop) (μ : σ → Nat) (s : σ) (h0 : Holds E (V s)) (hI : I s w)
    (round : ∀ s w, I s w → vcCode P T n c (fun e E' w' => match e with
      | .normal => ∃ s', Holds E' (V s') ∧ I s' w' ∧ μ s' < μ s
      | e => Q e E' w') (V s) w) : LoopP P n c Q E w := by
  refine ⟨fun a hA => ?_⟩
  refine wp_loop_ghost (fun m a' w => ∃ s, Ag n (V s) a' ∧ Same (wrote c) a a' ∧ I s w ∧ μ s = m) (μ s)
    ⟨s, hA.weaken (holds_get h0) (holds_marks h0), Same.refl _ _, hI, rfl⟩ ?_
  rintro m a' w' ⟨s, hA', hS', hI, rfl⟩
  refine wp_mono (vcCode_ok hT c _ _ w' a' (fun _ h => h) (Same.refl _ _) (round s w' hI) hA') ?_
  intro e b wb hl
  cases e with
  | normal =>
    obtain ⟨E', hAb, hSb, hq⟩ := hl
    obtain ⟨s', hV, hI', hlt⟩ := hq
    exact ⟨μ s', hlt, s', hAb.weaken (holds_get hV) (holds_marks hV), hS'.trans hSb, hI', rfl⟩
  | panic c => exact hl
  | _ => obtain ⟨E', hAb, hSb, hq⟩ := hl; exact ⟨E', hAb, hS'.trans hSb, hq⟩

theorem loop_only2 {P : Program} {T : Tys} (hT : TyOk P T) {n : Nat} {k : Code} {Q : Exit → Env → World → Prop} {E : Env} {w : World} {α β : Type}
    (V : α → β → Env) (I : α → β → World → Prop) (μ : α → β → Nat) (a : α) (b : β) (h0 : Holds E (V a b)) (hI : I a b w)
    (round : ∀ a b w, I a b w → vcCode P T n k (fun e E' w' => match e with
      | .normal => ∃ a' b', Holds E' (V a' b') ∧ I a' b' w' ∧ μ a' b' < μ a b
      | e => Q e E' w') (V a b) w) : LoopP P n k Q E w := by
  refine ⟨fun s hA => ?_⟩
  refine wp_loop_ghost (fun m s' w => ∃ a b, Ag n (V a b) s' ∧ Same (wrote k) s s' ∧ I a b w ∧ μ a b = m) (μ a b)
    ⟨a, b, hA.weaken (holds_get h0) (holds_marks h0), Same.refl _ _, hI, rfl⟩ ?_
  rintro m s' w' ⟨a, b, hA', hS', hI, rfl⟩
  refine wp_mono (vcCode_ok hT k _ _ w' s' (fun _ h => h) (Same.refl _ _) (round a b w' hI) hA') ?_
  intro e t wb hl
  cases e with
  | normal =>
    obtain ⟨E', hAb, hSb, hq⟩ := hl
    obtain ⟨a', b', hV, hI', hlt⟩ := hq
    exact ⟨μ a' b', hlt, a', b', hAb.weaken (holds_get hV) (holds_marks hV), hS'.trans hSb, hI', rfl⟩
  | panic c => exact hl
  | _ => obtain ⟨E', hAb, hSb, hq⟩ := hl; exact ⟨E', hAb, hS'.trans hSb, hq⟩
theorem loop_only3 {P : Program} {T : Tys} (hT : TyOk P T) {n : Nat} {k : Code} {Q : Exit → Env → World → Prop} {E : Env} {w : World} {α β γ : Type}
    (V : α → β → γ → Env) (I : α → β → γ → World → Prop) (μ : α → β → γ → Nat) (a : α) (b : β) (c : γ) (h0 : Holds E (V a b c)) (hI : I a b c w)
    (round : ∀ a b c w, I a b c w → vcCode P T n k (fun e E' w' => match e with
      | .normal => ∃ a' b' c', Holds E' (V a' b' c') ∧ I a' b' c' w' ∧ μ a' b' c' < μ a b c
      | e => Q e E' w') (V a b c) w) : LoopP P n k Q E w := by
  refine ⟨fun s hA => ?_⟩
  refine wp_loop_ghost (fun m s' w => ∃ a b c, Ag n (V a b c) s' ∧ Same (wrote k) s s' ∧ I a b c w ∧ μ a b c = m) (μ a b c)
    ⟨a, b, c, hA.weaken (holds_get h0) (holds_marks h0), Same.refl _ _, hI, rfl⟩ ?_
  rintro m s' w' ⟨a, b, c, hA', hS', hI, rfl⟩
  refine wp_mono (vcCode_ok hT k _ _ w' s' (fun _ h => h) (Same.refl _ _) (round a b c w' hI) hA') ?_
  intro e t wb hl
  cases e with
  | normal =>
    obtain ⟨E', hAb, hSb, hq⟩ := hl
    obtain ⟨a', b', c', hV, hI', hlt⟩ := hq
    exact ⟨μ a' b' c', hlt, a', b', c', hAb.weaken (holds_get hV) (holds_marks hV), hS'.trans hSb, hI', rfl⟩
  | panic c => exact hl
  | _ => obtain ⟨E', hAb, hSb, hq⟩ := hl; exact ⟨E', hAb, hS'.trans hSb, hq⟩
theorem loop_only4 {P : Program} {T : Tys} (hT : TyOk P T) {n : Nat} {k : Code} {Q : Exit → Env → World → Prop} {E : Env} {w : World} {α β γ δ : Type}
    (V : α → β → γ → δ → Env) (I : α → β → γ → δ → World → Prop) (μ : α → β → γ → δ → Nat) (a : α) (b : β) (c : γ) (d : δ) (h0 : Holds E (V a b c d)) (hI : I a b c d w)
    (round : ∀ a b c d w, I a b c d w → vcCode P T n k (fun e E' w' => match e with
      | .normal => ∃ a' b' c' d', Holds E' (V a' b' c' d') ∧ I a' b' c' d' w' ∧ μ a' b' c' d' < μ a b c d
      | e => Q e E' w') (V a b c d) w) : LoopP P n k Q E w := by
  refine ⟨fun s hA => ?_⟩
  refine wp_loop_ghost (fun m s' w => ∃ a b c d, Ag n (V a b c d) s' ∧ Same (wrote k) s s' ∧ I a b c d w ∧ μ a b c d = m) (μ a b c d)
    ⟨a, b, c, d, hA.weaken (holds_get h0) (holds_marks h0), Same.refl _ _, hI, rfl⟩ ?_
  rintro m s' w' ⟨a, b, c, d, hA', hS', hI, rfl⟩
  refine wp_mono (vcCode_ok hT k _ _ w' s' (fun _ h => h) (Same.refl _ _) (round a b c d w' hI) hA') ?_
  intro e t wb hl
  cases e with
  | normal =>
    obtain ⟨E', hAb, hSb, hq⟩ := hl
    obtain ⟨a', b', c', d', hV, hI', hlt⟩ := hq
    exact ⟨μ a' b' c' d', hlt, a', b', c', d', hAb.weaken (holds_get hV) (holds_marks hV), hS'.trans hSb, hI', rfl⟩
  | panic c => exact hl
  | _ => obtain ⟨E', hAb, hSb, hq⟩ := hl; exact ⟨E', hAb, hS'.trans hSb, hq⟩

/-- A stop behind a region whose order is open: from there on V alone is looked at. -/
theorem DrawP.mid {P : Program} {n id : Nat} {ops : List Oper} {Q : Exit → Env → World → Prop} {E : Env} {w : World} {σ : Type} (V : σ → Env) (I : σ → World → Prop)
    (h1 : DrawP P n id ops (fun e E' w' => match e with | .normal => ∃ s, Holds E' (V s) ∧ I s w' | e => Q e E' w') E w)
    (h2 : ∀ s w', I s w' → Q .normal (V s) w') : DrawP P n id ops Q E w := by
  refine ⟨fun a hA => wp_mono (h1.out a hA) ?_⟩
  intro e b wb hl
  cases e with
  | normal =>
    obtain ⟨E', hAb, hSb, s, hV, hI⟩ := hl
    exact ⟨V s, hAb.weaken (holds_get hV) (holds_marks hV), hSb, h2 s wb hI⟩
  | panic c => exact hl
  | _ => exact hl

/-! ### Functions -/
def envOf (i : Nat) : List Value → Env
  | [] => []
  | v :: r => (i, v) :: envOf (i + 1) r

def resP (P : Program) (w : World) (E : Env) (r : ResultVar) (k : Value → Prop) : Prop :=
  match r with
  | .tmp t => look E t k
  | .cell a t => look E a fun v => match v with
    | .pointer (some p) => GetP P (fun w' => w' = w) (loadVar t p) k
    | _ => False

def ressP (P : Program) (w : World) (E : Env) (rs : List ResultVar) (k : List Value → Prop) : Prop :=
  match rs with
  | [] => k []
  | r :: rest => resP P w E r fun v => ressP P w E rest fun vs => k (v :: vs)

def finP (P : Program) (w : World) (E : Env) (rs : List ResultVar) (R : Value → World → Prop) : Prop :=
  ressP P w E rs fun vs => match vs with
    | [v] => R v w
    | vs => R (.tuple vs.toArray) w

/-- On the way out the marks are taken up: their blocks hold no call. -/
def leaveE : Env → World → (World → Prop) → Prop
  | [], w, k => k w
  | (j, v) :: r, w, k => bif Nat.beq j 1000000 then ReqP (w.heap[markD v]? = some (.deferred (some []))) (leaveE r (w.putObj (markD v) (.deferred none)) k) else leaveE r w k
def noMarks (A : Prop) : Env → Prop
  | [] => A
  | (j, _) :: r => bif Nat.beq j 1000000 then False else noMarks A r
def bodyQ (P : Program) (rs : List ResultVar) (R : Value → World → Prop) (X : List PanicEntry → World → Prop) (e : Exit) (E : Env) (w : World) : Prop :=
  match e with
  | .normal => leaveE E w fun w' => finP P w' E rs R
  | .ret => leaveE E w fun w' => finP P w' E rs R
  | .panic c => noMarks (X c w) E
  | _ => False
theorem noMarks_ok {A : Prop} : ∀ {E : Env}, noMarks A E → marksOf E = [] ∧ A
  | [], h => ⟨rfl, h⟩
  | (j, v) :: r, h => by
    simp only [noMarks] at h
    simp only [marksOf]
    cases hb : Nat.beq j 1000000
    · rw [hb] at h; exact noMarks_ok h
    · rw [hb] at h; exact h.elim

def resSem (tmps : Array Value) : ResultVar → Sem Value
  | .tmp t => Pure.pure (tmps.getD t undef)
  | .cell a t => do loadVar t (← asAddr (tmps.getD a undef))

theorem resP_ok {P : Program} {w : World} {n : Nat} {E : Env} {a : Act} (hA : Ag n E a) {r : ResultVar} {k : Value → Prop} (h : resP P w E r k) :
    ∃ v, (resSem a.tmps r).run P w = .ok v w ∧ k v := by
  cases r with
  | tmp t =>
    obtain ⟨v, ⟨hi, hv⟩, hk⟩ := look_get h
    refine ⟨v, ?_, hk⟩
    simp [resSem, hA.get t v hi hv]
  | cell p t =>
    obtain ⟨v, ⟨hi, hv⟩, hk⟩ := look_get h
    split at hk
    · obtain ⟨u, hu, hk⟩ := hk.out
      refine ⟨u, ?_, hk⟩
      simp [resSem, hA.get p _ hi hv, asAddr, hu w rfl]
    · exact hk.elim

theorem mapM_ok {P : Program} {w : World} {n : Nat} {E : Env} {a : Act} (hA : Ag n E a) : ∀ {rs : List ResultVar} {k : List Value → Prop}, ressP P w E rs k →
    ∃ vs, (rs.mapM (resSem a.tmps)).run P w = .ok vs w ∧ k vs
  | [], k, h => ⟨[], rfl, h⟩
  | r :: rest, k, h => by
    obtain ⟨v, hv, h⟩ := resP_ok hA h
    obtain ⟨vs, hvs, hk⟩ := mapM_ok hA (rs := rest) h
    refine ⟨v :: vs, ?_, hk⟩
    rw [List.mapM_cons]
    simp [hv, hvs]

theorem finP_ok {P : Program} {w : World} {n : Nat} {E : Env} {a : Act} (hA : Ag n E a) {fn : Func} {R : Value → World → Prop} (h : finP P w E fn.results.toList R) :
    ∃ v, (results fn a.tmps).run P w = .ok v w ∧ R v w := by
  obtain ⟨vs, hvs, hk⟩ := mapM_ok hA h
  have hm : (fn.results.mapM (resSem a.tmps)).run P w = .ok vs.toArray w := by
    rw [Array.mapM_eq_mapM_toList]
    simp [hvs]
  have hr : results fn a.tmps = (do let vs ← fn.results.mapM (resSem a.tmps); Pure.pure (if h : vs.size = 1 then vs[0] else .tuple vs)) := by
    unfold results
    have he : (fun r : ResultVar => (match r with | .tmp t => Pure.pure (a.tmps.getD t undef) | .cell p t => (do loadVar t (← asAddr (a.tmps.getD p undef))) : Sem Value)) = resSem a.tmps := funext fun r => by cases r <;> rfl
    rw [← he]
    rfl
  rw [hr]
  simp only [Sem.run_bind, hm, Result.andThen_ok, Sem.run_pure]
  split at hk
  · rename_i v
    exact ⟨v, by simp, hk⟩
  · rename_i hne
    refine ⟨_, rfl, ?_⟩
    rw [dif_neg]
    · exact hk
    · intro hl
      have : vs.length = 1 := by simpa using hl
      obtain ⟨v, rfl⟩ := List.length_eq_one_iff.1 this
      exact hne v rfl

theorem leave_ok {P : Program} {fn : Func} {tmps : Array Value} {R : Value → World → Prop} {X : List PanicEntry → World → Prop} {k : World → Prop} (hk : ∀ w, k w → ∃ v, (results fn tmps).run P w = .ok v w ∧ R v w) :
    ∀ {E : Env} {w : World}, leaveE E w k → LeavesInM Fence.wide 0 P fn tmps (Ret R X) (marksOf E) .returning w
  | [], w, h => by
    obtain ⟨v, h1, h2⟩ := hk w h
    exact ⟨v, h1, h2⟩
  | (j, v) :: r, w, h => by
    simp only [leaveE] at h
    simp only [marksOf]
    cases hb : Nat.beq j 1000000
    · rw [hb] at h; exact leave_ok hk h
    · rw [hb] at h
      exact ⟨by simp, .inl ⟨_, _, rfl, run_takeDeferred h.req, leave_ok hk h.out⟩⟩

theorem envOf_get : ∀ {vs : List Value} {i j : Nat} {v : Value}, Env.get (envOf i vs) j = some v → i ≤ j ∧ vs[j - i]? = some v
  | [], _, _, _, h => by simp [envOf, Env.get] at h
  | u :: r, i, j, v, h => by
    simp only [envOf, Env.get] at h
    cases hb : Nat.beq i j
    · rw [hb] at h
      obtain ⟨hle, hg⟩ := envOf_get (vs := r) h
      refine ⟨by omega, ?_⟩
      have : j - i = (j - (i + 1)) + 1 := by omega
      rw [this, List.getElem?_cons_succ]
      exact hg
    · rw [hb] at h
      have : i = j := Nat.eq_of_beq_eq_true hb
      subst this
      simpa using h

/-- A function that may be called: it has a body of Go. -/
structure Callable (P : Program) (f : FuncId) : Prop where
  out : ∃ fn, P.funcs[f]? = some fn ∧ (fn.name == "runtime.NumGoroutine") = false ∧ fn.body.isSome = true

/-- What a call does: it may be called, and comes back with a value and a world of which R holds (or panics as X says). -/
structure DoesX (P : Program) (f : FuncId) (args : List Value) (w : World) (R : Value → World → Prop) (X : List PanicEntry → World → Prop) : Prop where
  can : Callable P f
  out : Calls P f args.toArray w (Ret R X)

abbrev Does (P : Program) (f : FuncId) (args : List Value) (w : World) (R : Value → World → Prop) : Prop := DoesX P f args w R (fun _ _ => False)

theorem DoesX.mono {P : Program} {f : FuncId} {args : List Value} {w : World} {R R' : Value → World → Prop} {X X' : List PanicEntry → World → Prop}
    (h : DoesX P f args w R X) (hR : ∀ v w', R v w' → R' v w') (hX : ∀ c w', X c w' → X' c w') : DoesX P f args w R' X' :=
  ⟨h.can, Calls.mono h.out fun e w' he => by
    cases e with
    | returned v => exact hR _ _ he
    | panicked c => exact hX _ _ he
    | outgrown => exact he⟩

theorem callFunc_run {P : Program} {f : FuncId} (h : Callable P f) (args : Array Value) (w : World) : (callFunc f args).run P w = .ok (.enter f args) w := by
  obtain ⟨fn, hf, hn, hb⟩ := h.out
  unfold callFunc
  have hb' : fn.body.isNone = false := by cases h : fn.body <;> simp_all
  simp only [Sem.run_bind, run_program, Result.andThen_ok, hf, hn, hb', Bool.false_eq_true, if_false, Sem.run_pure]

theorem CallP.does {P : Program} {f : FuncId} {args : List Value} {w : World} {R : Value → World → Prop} {k : Value → World → Prop} {X : List PanicEntry → World → Prop}
    (h : Does P f args w R) (hk : ∀ v w', R v w' → k v w') : CallP P f args w k X := by
  refine ⟨?_⟩
  rw [callFunc_run h.can]
  exact (h.mono hk (X' := X) fun _ _ h => h.elim).out

theorem CallP.doesX {P : Program} {f : FuncId} {args : List Value} {w : World} {R : Value → World → Prop} {k : Value → World → Prop} {X X' : List PanicEntry → World → Prop}
    (h : DoesX P f args w R X') (hk : ∀ v w', R v w' → k v w') (hX : ∀ c w', X' c w' → X c w') : CallP P f args w k X := by
  refine ⟨?_⟩
  rw [callFunc_run h.can]
  exact (h.mono hk hX).out

theorem envOf_marks : ∀ {vs : List Value} {i : Nat}, i + vs.length ≤ 1000000 → marksOf (envOf i vs) = []
  | [], _, _ => rfl
  | v :: r, i, h => by
    have hb : Nat.beq i 1000000 = false := by
      cases hq : Nat.beq i 1000000
      · rfl
      · have := Nat.eq_of_beq_eq_true hq; simp at h; omega
    simp only [envOf, marksOf, hb, cond_false]
    exact envOf_marks (by simp at h; omega)
theorem DoesX.of_vc {P : Program} {T : Tys} (hT : TyOk P T) {f : FuncId} {fn : Func} {c : Code} {args : List Value} {w : World} {R : Value → World → Prop} {X : List PanicEntry → World → Prop}
    (hf : P.funcs[f]? = some fn) (hb : fn.body = some c) (hn : ((fn.name == "runtime.NumGoroutine") = false ∧ Nat.ble fn.ntmps 1000000 = true)) (hl : Nat.ble args.length fn.ntmps = true)
    (h : vcCode P T fn.ntmps c (bodyQ P fn.results.toList R X) (envOf 0 args) w) : DoesX P f args w R X := by
  refine ⟨⟨fn, hf, hn.1, by simp [hb]⟩, ?_⟩
  have hl := Nat.le_of_ble_eq_true hl
  have hs := Nat.le_of_ble_eq_true hn.2
  refine (callsIn_wide (n := 0)).1 (callsIn_of_wp_marks hf hb trivial ?_)
  have hA : Ag fn.ntmps (envOf 0 args) { tmps := args.toArray ++ Array.replicate (fn.ntmps - args.toArray.size) undef, defers := [] } := by
    refine ⟨by simp; omega, hs, (envOf_marks (by omega)).symm, fun i v _ hv => ?_⟩
    obtain ⟨_, hg⟩ := envOf_get hv
    have hi : i < args.length := by
      have := (List.getElem?_eq_some_iff.1 hg).1
      omega
    rw [Array.getElem?_append_left (by simpa using hi)]
    simpa using hg
  refine wpIn_mono (vcCode_okIn hT (ro := none) (m := 0) c _ _ w _ (.inl rfl) (fun _ h => h) (Same.refl _ _) h hA) ?_
  intro e a w' hl
  cases e <;> simp only [lift, bodyQ] at hl
  case panic c =>
    obtain ⟨E, h1, h2⟩ := hl
    obtain ⟨h3, h4⟩ := noMarks_ok h2
    simp only [bodyPostM, h1, h3]
    exact h4
  all_goals obtain ⟨E, hAa, _, hq⟩ := hl
  case normal =>
    simp only [bodyPostM, hAa.defers]
    exact leave_ok (fun w hw => finP_ok hAa hw) hq
  case ret =>
    simp only [bodyPostM, hAa.defers]
    exact leave_ok (fun w hw => finP_ok hAa hw) hq
  all_goals exact hq.elim

/-! ### Regions whose order is open -/
/-- It neither reads memory nor writes it. -/
def still : Op → Bool
  | .nilCheck _ => true
  | .move _ => true
  | .fieldAddr _ _ _ => true
  | .assign _ => true
  | .extract _ _ => true
  | .indexAddr _ _ _ => true
  | .pick _ _ _ => true
  | .binOp _ _ _ _ _ => true
  | _ => false

/-- Number j of the region stands between all others that read or write memory: each one waits for it, or it for them. -/
def bar (ops : Array Oper) (j : Nat) : Bool :=
  (List.range ops.size).all fun k => k == j || ((ops[k]?).map (still ·.op)).getD false || ((ops[j]?).map (·.after.any fun e => Region.binds .any e && e.on == k)).getD false ||
    ((ops[k]?).map (·.after.any fun e => Region.binds .any e && e.on == j)).getD false

section
variable {P : Program} {ops : Array Oper} {Q : Exit → Act → World → Prop}

/-- Whatever order is picked from here on; behind each operation that is no bar S holds. -/
def anyB (P : Program) (ops : Array Oper) (Q : Exit → Act → World → Prop) (S : World → Prop) : Nat → Array Bool → Act → World → Prop
  | 0, listed, a, w => Region.ready .any ops listed = [] ∧ Q .normal a w
  | fuel + 1, listed, a, w =>
    (Region.ready .any ops listed = [] → Q .normal a w) ∧
    ∀ i ∈ Region.ready .any ops listed, wpOp P ops Q i (fun a' w' => (bar ops i = false → S w → S w') ∧ anyB P ops Q S fuel (listed.setIfInBounds i true) a' w') a w

theorem wpAny_of_anyB {S : World → Prop} : ∀ (fuel : Nat) (listed : Array Bool) (a : Act) (w : World), anyB P ops Q S fuel listed a w → wpAny P .any ops Q fuel listed a w
  | 0, _, _, _, h => h
  | fuel + 1, _, _, _, h => ⟨h.1, fun i hi => wpOp_mono (fun a' w' h' => wpAny_of_anyB fuel _ a' w' h'.2) (h.2 i hi)⟩

theorem bar_false {listed : Array Bool} {i j : Nat} (hi : i ∈ Region.ready .any ops listed) (hj : j ∈ Region.ready .any ops listed) (hne : j ≠ i) (hst : ∀ o, ops[i]? = some o → still o.op = false) : bar ops j = false := by
  cases hb : bar ops j
  · rfl
  · unfold bar at hb
    rw [List.all_eq_true] at hb
    obtain ⟨hiu, oi, hoi, hia⟩ := mem_ready.1 hi
    obtain ⟨hju, oj, hoj, hja⟩ := mem_ready.1 hj
    have hilt : i < ops.size := (Array.getElem?_eq_some_iff.1 hoi).1
    have h := hb i (List.mem_range.2 hilt)
    have hun : ∀ k, listed.getD k true = false → listed.getD k false = false := fun k hk => by
      rcases Nat.lt_or_ge k listed.size with h' | h'
      · simp [h'] at hk ⊢; exact hk
      · simp [Array.getElem?_eq_none h'] at hk
    have h1 : (oj.after.any fun e => Region.binds .any e && e.on == i) = false := by
      cases hq : (oj.after.any fun e => Region.binds .any e && e.on == i)
      · rfl
      · rw [Array.any_eq_true'] at hq
        obtain ⟨e, he, hbe⟩ := hq
        simp only [Bool.and_eq_true, beq_iff_eq] at hbe
        have := hja e he hbe.1
        rw [hbe.2, hun i hiu] at this
        cases this
    have h2 : (oi.after.any fun e => Region.binds .any e && e.on == j) = false := by
      cases hq : (oi.after.any fun e => Region.binds .any e && e.on == j)
      · rfl
      · rw [Array.any_eq_true'] at hq
        obtain ⟨e, he, hbe⟩ := hq
        simp only [Bool.and_eq_true, beq_iff_eq] at hbe
        have := hia e he hbe.1
        rw [hbe.2, hun j hju] at this
        cases this
    have hne' : (i == j) = false := by simpa using Ne.symm hne
    simp [hoj, hoi, h1, h2, hne', hst oi hoi] at h

theorem anyB_first {S S' : World → Prop} {i : Nat} {oi : Oper} {v : Value} (hi : ops[i]? = some oi) (hsel : ∀ (j : Nat) (o : Oper) cs b, ops[j]? = some o → o.op ≠ .select cs b)
    (hQ : ∀ c a w, Q (.panic c) (a.put oi.dst v) w → Q (.panic c) a w)
    (hstep : ∀ (listed : Array Bool) j w w', i ∈ Region.ready .any ops listed → j ∈ Region.ready .any ops listed → j ≠ i → (bar ops j = false → S w → S w') → S' w → S' w') :
    ∀ (fuel : Nat) (listed : Array Bool) (a : Act) (w : World),
      (∀ j oj, ops[j]? = some oj → j ≠ i → listed.getD j true = false → (∀ e ∈ oj.after, Region.binds .any e = true → e.on ≠ i) → oi.apart ops oj = true) →
      i ∈ Region.ready .any ops listed → YieldsIf P ops S' oi v a → S' w →
      anyB P ops Q S fuel (listed.setIfInBounds i true) (a.put oi.dst v) w → anyB P ops Q S (fuel + 1) listed a w := by
  intro fuel
  induction fuel with
  | zero =>
    intro listed a w _ hr hy hS H
    refine ⟨fun h => (by rw [h] at hr; cases hr), fun j hj => ?_⟩
    by_cases hji : j = i
    · subst hji; exact hy.wpOp hi hS ⟨fun _ h => h, H⟩
    · have := ready_mono hj hji
      rw [H.1] at this
      cases this
  | succ fuel ih =>
    intro listed a w hfree hr hy hS H
    refine ⟨fun h => (by rw [h] at hr; cases hr), fun j hj => ?_⟩
    by_cases hji : j = i
    · subst hji; exact hy.wpOp hi hS ⟨fun _ h => h, H⟩
    · have h1 := H.2 j (ready_mono hj hji)
      obtain ⟨hjun, oj, hoj, hall⟩ := mem_ready.1 hj
      have hnot : ∀ e ∈ oj.after, Region.binds .any e = true → e.on ≠ i := fun e he hb heq => by
        have h1 := hall e he hb
        have h0 := (mem_ready.1 hr).1
        rw [heq] at h1
        rcases Nat.lt_or_ge i listed.size with h' | h'
        · simp [h'] at h0 h1; rw [h0] at h1; cases h1
        · simp [Array.getElem?_eq_none h'] at h1
      have h2 := wpOp_putIf hoj (hfree j oj hoj hji hjun hnot) (fun cs b => hsel i oi cs b hi) (fun cs b => hsel j oj cs b hoj) hQ hy h1
      have hfree' : ∀ k ok, ops[k]? = some ok → k ≠ i → (listed.setIfInBounds j true).getD k true = false →
          (∀ e ∈ ok.after, Region.binds .any e = true → e.on ≠ i) → oi.apart ops ok = true := fun k ok hk hki hun hno => by
        refine hfree k ok hk hki ?_ hno
        by_cases hjk : j = k
        · subst hjk; exact hjun
        · rw [getD_set_ne true hjk] at hun; exact hun
      refine wpOp_mono (fun a' w' h3 => ⟨h3.2.1, ih (listed.setIfInBounds j true) a' w' hfree' (ready_mono hr (Ne.symm hji)) h3.1 (hstep listed j w w' hr hj hji h3.2.1 hS) ?_⟩) h2
      rw [Array.setIfInBounds_comm _ _ hji]
      exact h3.2.2
end

/-- A way through a region whose order is open: 'q i': number i is taken first (it only reads); 'e l': whichever of the list comes up. -/
inductive Plan where
  | done
  | q (i : Nat) (p : Plan)
  | e (l : List (Nat × Plan))

/-- Whether the operation stands in a fixed place among all the others of its region. -/
structure BarP (b : Bool) (A B : Prop) : Prop where
  out : (b = true ∧ A) ∨ B
theorem BarP.yes {b : Bool} {A B : Prop} (h : b = true) (a : A) : BarP b A B := ⟨.inl ⟨h, a⟩⟩
theorem BarP.no {b : Bool} {A B : Prop} (a : B) : BarP b A B := ⟨.inr a⟩

mutual
def okPlan (ops : Array Oper) (p : Plan) : Nat → Array Bool → Bool :=
  match p with
  | .done => fun _ listed => (Region.ready .any ops listed).isEmpty
  | .q i p => fun fuel listed => match fuel with
    | fuel + 1 => Region.free .any ops listed i && (Region.ready .any ops listed).contains i && okPlan ops p fuel (listed.setIfInBounds i true)
    | 0 => false
  | .e l => fun fuel listed => match fuel with
    | fuel + 1 => !l.isEmpty && (Region.ready .any ops listed == l.map (·.1)) && okPlans ops l fuel listed
    | 0 => false
  termination_by structural p
def okPlans (ops : Array Oper) (l : List (Nat × Plan)) : Nat → Array Bool → Bool :=
  match l with
  | [] => fun _ _ => true
  | x :: r => fun fuel listed => okPlanP ops x fuel (listed.setIfInBounds x.1 true) && okPlans ops r fuel listed
  termination_by structural l
def okPlanP (ops : Array Oper) (x : Nat × Plan) : Nat → Array Bool → Bool :=
  match x with
  | (_, p) => okPlan ops p
  termination_by structural x
end

def vcPlan (P : Program) (T : Tys) (n : Nat) (all : List Oper) (Q : Exit → Env → World → Prop) (S : World → Prop) (p : Plan) : Bool → Env → World → Prop :=
  Plan.rec (motive_1 := fun _ => Bool → Env → World → Prop) (motive_2 := fun _ => Bool → Env → World → Prop) (motive_3 := fun _ => Bool → Env → World → Prop)
    (fun _ E w => Q .normal E w)
    (fun i _ ih valid E w => match all[i]? with
      | some o => litBool (still o.op) (wantP all o E
          (quiet P T (fun _ => True) E o.op fun v => putE n E o.dst v fun E' => ih valid E' w)
          (putE n E o.dst undef fun E' => ih valid E' w)) (litBool valid (wantP all o E
          (quiet P T S E o.op fun v => putE n E o.dst v fun E' => ih valid E' w)
          (putE n E o.dst undef fun E' => ih valid E' w)) False)
      | none => False)
    (fun _ ih => ih)
    (fun _ _ _ => True)
    (fun _ r ihx ihr valid E w => litBool r.isEmpty (ihx valid E w) (ihx valid E w ∧ ihr valid E w))
    (fun i _ ih valid E w => match all[i]? with
      | some o => wantP all o E
          (vcOp P T false E o w (fun v w' => BarP (bar all.toArray i) (putE n E o.dst v fun E' => ih false E' w')
            (ReqP (S w') (putE n E o.dst v fun E' => ih true E' w'))) (fun c w' => Q (.panic c) E w'))
          (BarP (bar all.toArray i) (putE n E o.dst undef fun E' => ih valid E' w)
            (ReqP (S w) (putE n E o.dst undef fun E' => ih true E' w)))
      | none => False) p
def vcPlans (P : Program) (T : Tys) (n : Nat) (all : List Oper) (Q : Exit → Env → World → Prop) (S : World → Prop) (l : List (Nat × Plan)) : Bool → Env → World → Prop :=
  Plan.rec_1 (motive_1 := fun _ => Bool → Env → World → Prop) (motive_2 := fun _ => Bool → Env → World → Prop) (motive_3 := fun _ => Bool → Env → World → Prop)
    (fun _ E w => Q .normal E w)
    (fun i _ ih valid E w => match all[i]? with
      | some o => litBool (still o.op) (wantP all o E
          (quiet P T (fun _ => True) E o.op fun v => putE n E o.dst v fun E' => ih valid E' w)
          (putE n E o.dst undef fun E' => ih valid E' w)) (litBool valid (wantP all o E
          (quiet P T S E o.op fun v => putE n E o.dst v fun E' => ih valid E' w)
          (putE n E o.dst undef fun E' => ih valid E' w)) False)
      | none => False)
    (fun _ ih => ih)
    (fun _ _ _ => True)
    (fun _ r ihx ihr valid E w => litBool r.isEmpty (ihx valid E w) (ihx valid E w ∧ ihr valid E w))
    (fun i _ ih valid E w => match all[i]? with
      | some o => wantP all o E
          (vcOp P T false E o w (fun v w' => BarP (bar all.toArray i) (putE n E o.dst v fun E' => ih false E' w')
            (ReqP (S w') (putE n E o.dst v fun E' => ih true E' w'))) (fun c w' => Q (.panic c) E w'))
          (BarP (bar all.toArray i) (putE n E o.dst undef fun E' => ih valid E' w)
            (ReqP (S w) (putE n E o.dst undef fun E' => ih true E' w)))
      | none => False) l
def vcPlan1 (P : Program) (T : Tys) (n : Nat) (all : List Oper) (Q : Exit → Env → World → Prop) (S : World → Prop) (x : Nat × Plan) : Bool → Env → World → Prop :=
  Plan.rec_2 (motive_1 := fun _ => Bool → Env → World → Prop) (motive_2 := fun _ => Bool → Env → World → Prop) (motive_3 := fun _ => Bool → Env → World → Prop)
    (fun _ E w => Q .normal E w)
    (fun i _ ih valid E w => match all[i]? with
      | some o => litBool (still o.op) (wantP all o E
          (quiet P T (fun _ => True) E o.op fun v => putE n E o.dst v fun E' => ih valid E' w)
          (putE n E o.dst undef fun E' => ih valid E' w)) (litBool valid (wantP all o E
          (quiet P T S E o.op fun v => putE n E o.dst v fun E' => ih valid E' w)
          (putE n E o.dst undef fun E' => ih valid E' w)) False)
      | none => False)
    (fun _ ih => ih)
    (fun _ _ _ => True)
    (fun _ r ihx ihr valid E w => litBool r.isEmpty (ihx valid E w) (ihx valid E w ∧ ihr valid E w))
    (fun i _ ih valid E w => match all[i]? with
      | some o => wantP all o E
          (vcOp P T false E o w (fun v w' => BarP (bar all.toArray i) (putE n E o.dst v fun E' => ih false E' w')
            (ReqP (S w') (putE n E o.dst v fun E' => ih true E' w'))) (fun c w' => Q (.panic c) E w'))
          (BarP (bar all.toArray i) (putE n E o.dst undef fun E' => ih valid E' w)
            (ReqP (S w) (putE n E o.dst undef fun E' => ih true E' w)))
      | none => False) x
section
variable {P : Program} {T : Tys} {n : Nat} {all : List Oper} {Q : Exit → Env → World → Prop} {S : World → Prop} {valid : Bool} {E : Env} {w : World}
theorem vcPlan_done : vcPlan P T n all Q S .done valid E w = Q .normal E w := rfl
theorem vcPlan_q {i : Nat} {p : Plan} : vcPlan P T n all Q S (.q i p) valid E w = match all[i]? with
    | some o => litBool (still o.op) (wantP all o E
        (quiet P T (fun _ => True) E o.op fun v => putE n E o.dst v fun E' => vcPlan P T n all Q S p valid E' w)
        (putE n E o.dst undef fun E' => vcPlan P T n all Q S p valid E' w)) (litBool valid (wantP all o E
        (quiet P T S E o.op fun v => putE n E o.dst v fun E' => vcPlan P T n all Q S p valid E' w)
        (putE n E o.dst undef fun E' => vcPlan P T n all Q S p valid E' w)) False)
    | none => False := rfl
theorem vcPlan_e {l : List (Nat × Plan)} : vcPlan P T n all Q S (.e l) valid E w = vcPlans P T n all Q S l valid E w := rfl
theorem vcPlans_cons {x : Nat × Plan} {r : List (Nat × Plan)} : vcPlans P T n all Q S (x :: r) valid E w = litBool r.isEmpty (vcPlan1 P T n all Q S x valid E w) (vcPlan1 P T n all Q S x valid E w ∧ vcPlans P T n all Q S r valid E w) := rfl
theorem vcPlan1_mk {i : Nat} {p : Plan} : vcPlan1 P T n all Q S (i, p) valid E w = match all[i]? with
    | some o => wantP all o E
        (vcOp P T false E o w (fun v w' => BarP (bar all.toArray i) (putE n E o.dst v fun E' => vcPlan P T n all Q S p false E' w')
          (ReqP (S w') (putE n E o.dst v fun E' => vcPlan P T n all Q S p true E' w'))) (fun c w' => Q (.panic c) E w'))
        (BarP (bar all.toArray i) (putE n E o.dst undef fun E' => vcPlan P T n all Q S p valid E' w)
          (ReqP (S w) (putE n E o.dst undef fun E' => vcPlan P T n all Q S p true E' w)))
    | none => False := rfl
end

section
variable {P : Program} {T : Tys}

theorem mem_dsts {ops : List Oper} {i : Nat} {o : Oper} (h : ops[i]? = some o) {d : Nat} (hd : o.dst = some d) : d ∈ Oper.dsts ops := by
  induction ops generalizing i with
  | nil => cases h
  | cons p r ih =>
    simp only [Oper.dsts]
    cases i with
    | zero =>
      have : p = o := by simpa using h
      subst this
      simp [hd]
    | succ i =>
      have := ih (i := i) (by simpa using h)
      split
      · exact List.mem_cons_of_mem _ this
      · exact this

theorem lift_unput {n : Nat} {Q : Exit → Env → World → Prop} {ws : List Nat} {a₀ : Act} (d : Option Tmp) (v : Value) : ∀ c a w, lift n Q ws a₀ (.panic c) (a.put d v) w → lift n Q ws a₀ (.panic c) a w := by
  intro c a w h
  cases d with
  | none => exact h
  | some d => exact h

theorem vcPlan_ok (hT : TyOk P T) {n : Nat} {all : List Oper} {Q : Exit → Env → World → Prop} {S : World → Prop} {a₀ : Act} (hsel : Region.noSelect all.toArray = true) :
    ∀ (fuel : Nat) (p : Plan) (valid : Bool) (listed : Array Bool) (E : Env) (w : World) (a : Act), okPlan all.toArray p fuel listed = true → (valid = true → S w) → Same (Oper.dsts all) a₀ a → Ag n E a →
    vcPlan P T n all Q S p valid E w → anyB P all.toArray (lift n Q (Oper.dsts all) a₀) S fuel listed a w := by
  intro fuel
  have hdone : ∀ fuel (valid : Bool) (listed : Array Bool) (E : Env) (w : World) (a : Act), okPlan all.toArray .done fuel listed = true → Same (Oper.dsts all) a₀ a → Ag n E a →
      vcPlan P T n all Q S .done valid E w → anyB P all.toArray (lift n Q (Oper.dsts all) a₀) S fuel listed a w := by
    intro fuel valid listed E w a hp hSm hA h
    have hr : Region.ready .any all.toArray listed = [] := by cases fuel <;> simpa [okPlan] using hp
    cases fuel with
    | zero => exact ⟨hr, E, hA, hSm, h⟩
    | succ fuel => exact ⟨fun _ => ⟨E, hA, hSm, h⟩, by rw [hr]; simp⟩
  induction fuel with
  | zero =>
    intro p valid listed E w a hp hS hSm hA h
    cases p with
    | done => exact hdone _ _ _ _ _ _ hp hSm hA h
    | q i p => simp [okPlan] at hp
    | e l => simp [okPlan] at hp
  | succ fuel ih =>
    intro p valid listed E w a hp hS hSm hA h
    cases p with
    | done => exact hdone _ _ _ _ _ _ hp hSm hA h
    | q i p =>
      simp only [okPlan, Bool.and_eq_true] at hp
      rw [vcPlan_q] at h
      split at h
      · rename_i o ho
        have ho' : all.toArray[i]? = some o := by simpa using ho
        have hd : ∀ x, o.dst = some x → x ∈ Oper.dsts all := fun x hx => mem_dsts ho hx
        have hstep : still o.op = false → ∀ (listed : Array Bool) j w w', i ∈ Region.ready .any all.toArray listed → j ∈ Region.ready .any all.toArray listed → j ≠ i → (bar all.toArray j = false → S w → S w') → S w → S w' :=
          fun hs listed j w w' hr hj hne hst hSw => hst (bar_false hr hj hne (fun o' h => by rw [ho'] at h; cases h; exact hs)) hSw
        have hun : (putE n E o.dst undef fun E' => vcPlan P T n all Q S p valid E' w) → Region.wanted o (yielded all.toArray a.tmps) = false → anyB P all.toArray (lift n Q (Oper.dsts all) a₀) S (fuel + 1) listed a w := fun h hw => by
          obtain ⟨E', hA', hk⟩ := hA.put h
          exact anyB_first (S' := fun _ => True) ho' (Region.noSelect_spec hsel) (lift_unput _ _) (fun _ _ _ _ _ _ _ _ _ => trivial) fuel listed a w (Region.free_spec ho' hp.1.1) (by simpa using hp.1.2) (.inr ⟨hw, rfl⟩) trivial
            (ih p valid _ E' w _ hp.2 hS (hSm.put hd _) hA' hk)
        rcases litBool_elim h with ⟨hs, h⟩ | ⟨hs, h⟩
        · rcases wantP_ok hA h with ⟨hw, h⟩ | ⟨hw, h⟩
          · obtain ⟨v, hv, hk⟩ := quiet_ok hT hA.agR h
            obtain ⟨E', hA', hk⟩ := hA.put hk
            exact anyB_first (S' := fun _ => True) ho' (Region.noSelect_spec hsel) (lift_unput _ _) (fun _ _ _ _ _ _ _ _ _ => trivial) fuel listed a w (Region.free_spec ho' hp.1.1) (by simpa using hp.1.2) (.inl ⟨hw, hv⟩) trivial
              (ih p valid _ E' w _ hp.2 hS (hSm.put hd v) hA' hk)
          · exact hun h hw
        · rcases litBool_elim h with ⟨hv, h⟩ | ⟨_, h⟩
          · rcases wantP_ok hA h with ⟨hw, h⟩ | ⟨hw, h⟩
            · have hS' := hS hv
              obtain ⟨v, hv, hk⟩ := quiet_ok hT hA.agR h
              obtain ⟨E', hA', hk⟩ := hA.put hk
              exact anyB_first ho' (Region.noSelect_spec hsel) (lift_unput _ _) (hstep hs) fuel listed a w (Region.free_spec ho' hp.1.1) (by simpa using hp.1.2) (.inl ⟨hw, hv⟩) hS'
                (ih p valid _ E' w _ hp.2 hS (hSm.put hd v) hA' hk)
            · exact hun h hw
          · exact h.elim
      · exact h.elim
    | e l =>
      simp only [okPlan, Bool.and_eq_true] at hp
      rw [vcPlan_e] at h
      have hr : Region.ready .any all.toArray listed = l.map (·.1) := by simpa using hp.1.2
      have hne : l ≠ [] := by
        intro he
        subst he
        simp at hp
      have one : ∀ i p, okPlan all.toArray p fuel (listed.setIfInBounds i true) = true → vcPlan1 P T n all Q S (i, p) valid E w →
          wpOp P all.toArray (lift n Q (Oper.dsts all) a₀) i (fun a' w' => (bar all.toArray i = false → S w → S w') ∧ anyB P all.toArray (lift n Q (Oper.dsts all) a₀) S fuel (listed.setIfInBounds i true) a' w') a w := by
        intro i p hp h
        rw [vcPlan1_mk] at h
        split at h
        · rename_i o ho
          have ho' : all.toArray[i]? = some o := by simpa using ho
          have hd : ∀ x, o.dst = some x → x ∈ Oper.dsts all := fun x hx => mem_dsts ho hx
          unfold wpOp
          simp only [ho']
          have hk : ∀ b v w', (b = true → S w') → (BarP (bar all.toArray i) (putE n E o.dst v fun E' => vcPlan P T n all Q S p b E' w')
              (ReqP (S w') (putE n E o.dst v fun E' => vcPlan P T n all Q S p true E' w'))) →
              (bar all.toArray i = false → S w → S w') ∧ anyB P all.toArray (lift n Q (Oper.dsts all) a₀) S fuel (listed.setIfInBounds i true) (a.put o.dst v) w' := by
            intro b v w' hbS hb
            rcases hb.out with ⟨hbar, hb⟩ | hb
            · obtain ⟨E', hA', hp'⟩ := hA.put hb
              exact ⟨fun h => (by rw [hbar] at h; cases h), ih p b _ E' w' _ hp hbS (hSm.put hd _) hA' hp'⟩
            · obtain ⟨E', hA', hp'⟩ := hA.put hb.out
              exact ⟨fun _ _ => hb.req, ih p true _ E' w' _ hp (fun _ => hb.req) (hSm.put hd _) hA' hp'⟩
          rcases wantP_ok hA h with ⟨hw, h⟩ | ⟨hw, h⟩
          · rw [if_pos hw]
            refine .inl ?_
            unfold Oper.wp
            refine upon_of_nextOk ?_
            have h1 := vcOp_ok hT hA.agR h
            revert h1
            generalize (execOp a.eval o).run P w = res
            intro h1
            cases res with
            | ok x w' =>
              cases x <;> simp only [NextOk] at h1 ⊢
              case value v => exact hk false _ _ (by simp) h1
              case skip => exact hk false _ _ (by simp) h1
              case enter f args =>
                refine Calls.mono h1 fun e w'' he => ?_
                cases e with
                | returned v => exact hk false _ _ (by simp) he
                | panicked c => exact ⟨E, hA.defers, he⟩
                | outgrown => exact he.elim
              case round => exact absurd h1.1 (by simp)
            | halt x w' =>
              cases x <;> simp only [NextOk] at h1 ⊢
              case panic v => exact ⟨E, hA.defers, h1⟩
          · rw [if_neg (by simp [hw])]
            exact hk valid _ _ hS h
        · exact h.elim
      have many : ∀ l, okPlans all.toArray l fuel listed = true → vcPlans P T n all Q S l valid E w → ∀ i ∈ l.map (·.1),
          wpOp P all.toArray (lift n Q (Oper.dsts all) a₀) i (fun a' w' => (bar all.toArray i = false → S w → S w') ∧ anyB P all.toArray (lift n Q (Oper.dsts all) a₀) S fuel (listed.setIfInBounds i true) a' w') a w := by
        intro l
        induction l with
        | nil => intro _ _ i hi; simp at hi
        | cons x r ihl =>
          obtain ⟨j, p⟩ := x
          intro hp h i hi
          simp only [okPlans, okPlanP, Bool.and_eq_true] at hp
          rw [List.map_cons, List.mem_cons] at hi
          rw [vcPlans_cons] at h
          rcases litBool_elim h with ⟨hr, h⟩ | ⟨_, h⟩
          · have hr : r = [] := by simpa using hr
            subst hr
            rcases hi with rfl | hi
            · exact one _ p hp.1 h
            · simp at hi
          · rcases hi with rfl | hi
            · exact one _ p hp.1 h.1
            · exact ihl hp.2 h.2 i hi
      refine ⟨fun h0 => ?_, fun i hi => ?_⟩
      · rw [hr] at h0
        exact absurd (List.map_eq_nil_iff.1 h0) hne
      · rw [hr] at hi
        exact many l hp.2 h i hi

/-- A region whose order is open: by a plan. The world has one draw more. -/
theorem draw_intro (hT : TyOk P T) (hm : P.follows .mixedOrders = true) {n id : Nat} {ops : List Oper} {Q : Exit → Env → World → Prop} {E : Env} {w : World} (p : Plan) (S : World → Prop)
    (hok : (Region.noSelect ops.toArray && okPlan ops.toArray p ops.length (Array.replicate ops.length false)) = true) (hS : S { w with drawn := w.drawn + 1 })
    (h : vcPlan P T n ops Q S p true E { w with drawn := w.drawn + 1 }) : DrawP P n id ops Q E w := by
  rw [Bool.and_eq_true] at hok
  refine ⟨fun a hA => wp_region_any hm (wpAny_of_anyB (S := S) _ _ _ _ ?_)⟩
  have := vcPlan_ok hT hok.1 ops.length p true (Array.replicate ops.length false) E { w with drawn := w.drawn + 1 } a hok.2 (fun _ => hS) (Same.refl _ a) hA h
  simpa using this
/-- The same, where nothing but the last operations turns the world: the world stands still. -/
theorem draw_still (hT : TyOk P T) (hm : P.follows .mixedOrders = true) {n id : Nat} {ops : List Oper} {Q : Exit → Env → World → Prop} {E : Env} {w : World} (p : Plan)
    (hok : (Region.noSelect ops.toArray && okPlan ops.toArray p ops.length (Array.replicate ops.length false)) = true)
    (h : ∀ w₁, Below w.heap.size w w₁ → w₁.heap.size = w.heap.size → vcPlan P T n ops Q (fun w' => w' = w₁) p true E w₁) : DrawP P n id ops Q E w :=
  draw_intro hT hm p (fun w' => w' = { w with drawn := w.drawn + 1 }) hok rfl (h { w with drawn := w.drawn + 1 } ⟨rfl, rfl, rfl, Nat.le_refl _, fun _ _ => rfl⟩ rfl)

/-- The same, where what turns the world before the last operations only adds to it. -/
theorem draw_ext (hT : TyOk P T) (hm : P.follows .mixedOrders = true) {n id : Nat} {ops : List Oper} {Q : Exit → Env → World → Prop} {E : Env} {w : World} (p : Plan)
    (hok : (Region.noSelect ops.toArray && okPlan ops.toArray p ops.length (Array.replicate ops.length false)) = true)
    (h : ∀ w₁, Below w.heap.size w w₁ → w₁.heap.size = w.heap.size → vcPlan P T n ops Q (fun w' => Below w₁.heap.size w₁ w') p true E w₁) : DrawP P n id ops Q E w :=
  draw_intro hT hm p (fun w' => Below w.heap.size { w with drawn := w.drawn + 1 } w') hok (Below.refl _ _) (h { w with drawn := w.drawn + 1 } ⟨rfl, rfl, rfl, Nat.le_refl _, fun _ _ => rfl⟩ rfl)

/-- From here on V alone is looked at. -/
theorem draw_still_only (hT : TyOk P T) (hm : P.follows .mixedOrders = true) {n id : Nat} {ops : List Oper} {Q : Exit → Env → World → Prop} {E : Env} {w : World} (V : Env) (hV : Holds E V) (p : Plan)
    (hok : (Region.noSelect ops.toArray && okPlan ops.toArray p ops.length (Array.replicate ops.length false)) = true)
    (h : ∀ w₁, Below w.heap.size w w₁ → w₁.heap.size = w.heap.size → vcPlan P T n ops Q (fun w' => w' = w₁) p true V w₁) : DrawP P n id ops Q E w :=
  ⟨fun a hA => (draw_still hT hm p hok h).out a (hA.weaken (holds_get hV) (holds_marks hV))⟩
theorem draw_ext_only (hT : TyOk P T) (hm : P.follows .mixedOrders = true) {n id : Nat} {ops : List Oper} {Q : Exit → Env → World → Prop} {E : Env} {w : World} (V : Env) (hV : Holds E V) (p : Plan)
    (hok : (Region.noSelect ops.toArray && okPlan ops.toArray p ops.length (Array.replicate ops.length false)) = true)
    (h : ∀ w₁, Below w.heap.size w w₁ → w₁.heap.size = w.heap.size → vcPlan P T n ops Q (fun w' => Below w₁.heap.size w₁ w') p true V w₁) : DrawP P n id ops Q E w :=
  ⟨fun a hA => (draw_ext hT hm p hok h).out a (hA.weaken (holds_get hV) (holds_marks hV))⟩

end

end Go.Proofs.YtgeemplpgfiidaaGreatDoor.Mv
