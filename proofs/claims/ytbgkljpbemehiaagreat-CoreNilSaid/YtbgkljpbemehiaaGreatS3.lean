/- A walk as an inductive relation: one rule a construct; what it derives holds of the machine. No condition. -/
import Derived.Test.YtbgkljpbemehiaaGreatS2
import Derived.Laws.BitsAllLaws
import Derived.Laws.BitsLemmas
import Derived.Laws.Bits64
import Derived.Laws.Strings
namespace Go.Proofs.YtbgkljpbemehiaaGreat.Sx

def kin : IntKind → Int → Prop
  | .i8, n => -128 ≤ n ∧ n ≤ 127
  | .i16, n => -32768 ≤ n ∧ n ≤ 32767
  | .i32, n => -2147483648 ≤ n ∧ n ≤ 2147483647
  | .i64, n => -9223372036854775808 ≤ n ∧ n ≤ 9223372036854775807
  | .u8, n => 0 ≤ n ∧ n ≤ 255
  | .u16, n => 0 ≤ n ∧ n ≤ 65535
  | .u32, n => 0 ≤ n ∧ n ≤ 4294967295
  | .u64, n => 0 ≤ n ∧ n ≤ 18446744073709551615
theorem wrap_kin {k : IntKind} {n : Int} (h : kin k n) : k.wrap n = n := by
  cases k <;> simp only [kin] at h <;> simp only [IntKind.wrap, IntKind.bits, IntKind.signed] <;> simp <;> omega

inductive Cf
  | run (k : Kt)
  | op (o : Op) (ty : TypeId) (dst : Option Tmp) (k : Kt)
  | brn (t : Bool) (x y : Code) (k : List Item)
  | grd (t : Bool) (oo : Oper) (k : Kt)
  | bin (o : BinOp) (t : TypeId) (v u : Value) (dst : Tmp) (k : Kt)
  | ld (t : TypeId) (a : Value) (dst : Tmp) (k : Kt)
  | un (o : UnOp) (v : Value) (dst : Tmp) (k : Kt)
  | st (t : TypeId) (a v : Value) (k : Kt)
  | cv (kd' kd : IntKind) (n : Int) (dst : Tmp) (k : Kt)
  | bx (t : TypeId) (v : Value) (dst : Tmp) (k : Kt)
  | bd (t : TypeId) (z : List Value) (pv : List ((Nat × Nat) × Value)) (dst : Tmp) (k : Kt)
  | bs (e : TypeId) (z : List Value) (n : Nat) (pv : List ((Nat × Nat) × Value)) (dst : Tmp) (k : Kt)
  | lm (v : Value) (dst : Tmp) (k : Kt)
  | ia (t : TypeId) (v : Value) (kd : IntKind) (j : Int) (dst : Tmp) (k : Kt)
  | is (s : ByteArray) (kd : IntKind) (j : Int) (dst : Tmp) (k : Kt)
  | dst (q : Bool) (oo : Oper) (i : Nat) (ops : Array Oper) (ms todo : List Nat) (pend : List (Nat × Nat × Value)) (k : List Item)
  | dg (t : Bool) (oo : Oper) (i : Nat) (ops : Array Oper) (ms todo : List Nat) (pend : List (Nat × Nat × Value)) (k : List Item)
  | db (o : BinOp) (v u : Value) (s : Nat) (t : TypeId) (i : Nat) (ops : Array Oper) (ms todo : List Nat) (pend : List (Nat × Nat × Value)) (k : List Item)
/-- what an operation is of, for its value alone -/
inductive PC
  | op (o : Op) (ty : TypeId)
  | ld (t : TypeId) (a : Value)
  | bin (o : BinOp) (t : TypeId) (v u : Value)
  | ia (t : TypeId) (v : Value) (kd : IntKind) (j : Int)
  | is (s : ByteArray) (kd : IntKind) (j : Int)
  | bd (t : TypeId) (z : List Value) (pv : List ((Nat × Nat) × Value))

variable {Pr : Program}

/-- parts of a literal, evaluated: at which place, which value -/
def evp (ρ : Env) (pl : Nat → Option (Nat × Nat)) : List (Nat × Operand) → Option (List ((Nat × Nat) × Value))
  | [] => some []
  | (i, x) :: l => match pl i, evo ρ x, evp ρ pl l with
    | some o, some v, some r => some ((o, v) :: r)
    | _, _, _ => none
class LenIs (l : List Value) (n : Nat) : Prop where h : l.length = n
instance : LenIs [] 0 := ⟨rfl⟩
instance (x : Value) (l : List Value) (n : Nat) [a : LenIs l n] : LenIs (x :: l) (n + 1) := ⟨by simp [a.h]⟩
inductive FillR : List Value → List ((Nat × Nat) × Value) → List Value → Prop
  | nil (z) : FillR z [] z
  | cons {z o n v x vs z1 l z2} (hv : v.cells = (x :: vs).toArray) (hn : (x :: vs).length = n) (h : SetsR z o (x :: vs) z1) (r : FillR z1 l z2) : FillR z (((o, n), v) :: l) z2
class Fill (z : List Value) (l : List ((Nat × Nat) × Value)) (z' : outParam (List Value)) : Prop where h : FillR z l z'
instance (z : List Value) : Fill z [] z := ⟨.nil z⟩
instance (z z1 z2 vs : List Value) (o n : Nat) (v x : Value) (l : List ((Nat × Nat) × Value)) [a : Cels v (x :: vs)] [a' : LenIs (x :: vs) n] [b : SetS z o (x :: vs) z1] [c : Fill z1 l z2] : Fill z (((o, n), v) :: l) z2 := ⟨.cons a.h a'.h b.h c.h⟩
class AddL (a b : Nat) (c : outParam Nat) : Prop where h : a + b = c
instance (a : Nat) : AddL a 0 a := ⟨rfl⟩
instance (a b c : Nat) [h : AddL a b c] : AddL a (b + 1) (c + 1) := ⟨by rw [← h.h]; rfl⟩
class MulL (a b : Nat) (c : outParam Nat) : Prop where h : a * b = c
instance (b : Nat) : MulL 0 b 0 := ⟨by simp⟩
instance (a b c d : Nat) [h : MulL a b c] [k : AddL c b d] : MulL (a + 1) b d := ⟨by rw [Nat.add_mul, h.h, Nat.one_mul, k.h]⟩
instance (priority := high) (z z1 z2 vs : List Value) (i s o n : Nat) (v x : Value) (l : List ((Nat × Nat) × Value)) [m : MulL i s o] [a : Cels v (x :: vs)] [a' : LenIs (x :: vs) n] [b : SetS z o (x :: vs) z1] [c : Fill z1 l z2] : Fill z (((i * s, n), v) :: l) z2 := ⟨.cons a.h a'.h (m.h ▸ b.h) c.h⟩
/-- whether two values are equal, where a test needs no memory: against nil -/
class EqN (Pr : Program) (t : Nat) (v u : Value) (q : outParam Bool) : Prop where h : (∀ d w, (Op.equalIn (d + 1) t v u).run Pr w = .ok q w) ∧ ((∃ a, v = .pointer a) ∨ (∃ r, v = .map r) ∨ (∃ a n c, v = .slice a n c) ∨ v = .nilFunc ∨ ∃ f a c, v = .func f a c)
theorem pD {t : Nat} {dd : TypeDesc} (h : Pr.underlying t = some dd) (w : World) : (underlying t).run Pr w = .ok dd w := run_underlying h w
instance (t e : Nat) (a : Addr) [x : TU Pr t (.pointer e)] : EqN Pr t (.pointer (some a)) (.pointer none) false := ⟨fun d w => by simp [Op.equalIn, run_underlying x.h], .inl ⟨_, rfl⟩⟩
instance (t e : Nat) [x : TU Pr t (.pointer e)] : EqN Pr t (.pointer none) (.pointer none) true := ⟨fun d w => by simp [Op.equalIn, run_underlying x.h], .inl ⟨_, rfl⟩⟩
instance (t k e : Nat) (r : Nat) [x : TU Pr t (.map k e)] : EqN Pr t (.map (some r)) (.map none) false := ⟨fun d w => by simp [Op.equalIn, run_underlying x.h], .inr (.inl ⟨_, rfl⟩)⟩
instance (t k e : Nat) [x : TU Pr t (.map k e)] : EqN Pr t (.map none) (.map none) true := ⟨fun d w => by simp [Op.equalIn, run_underlying x.h], .inr (.inl ⟨_, rfl⟩)⟩
instance (t e : Nat) (a : Addr) (n c n' c' : Nat) [x : TU Pr t (.slice e)] : EqN Pr t (.slice (some a) n c) (.slice none n' c') false := ⟨fun d w => by simp [Op.equalIn, run_underlying x.h], .inr (.inr (.inl ⟨_, _, _, rfl⟩))⟩
instance (t e : Nat) (n c n' c' : Nat) [x : TU Pr t (.slice e)] : EqN Pr t (.slice none n c) (.slice none n' c') true := ⟨fun d w => by simp [Op.equalIn, run_underlying x.h], .inr (.inr (.inl ⟨_, _, _, rfl⟩))⟩

/-- a number that is a natural one, as such -/
class IsNat (j : Int) (k : outParam Nat) : Prop where h : j = k
instance (k : Nat) : IsNat (k : Int) k := ⟨rfl⟩
instance (n : Nat) : IsNat (OfNat.ofNat n : Int) n := ⟨rfl⟩
instance (a b : Int) (x y : Nat) [p : IsNat a x] [q : IsNat b y] : IsNat (a + b) (x + y) := ⟨by rw [p.h, q.h]; simp⟩
instance (a b : Int) (x y : Nat) [p : IsNat a x] [q : IsNat b y] : IsNat (a * b) (x * y) := ⟨by rw [p.h, q.h]; simp⟩

/-- n zero elements -/
def zeros (z : List Value) : Nat → List Value
  | 0 => []
  | n + 1 => z ++ zeros z n

/-- what an operation of a slice may be cut to -/
def cutAt (ρ : Env) (d : Int) : Option Operand → Option Int
  | none => some d
  | some x => match evo ρ x with
    | some (.int _ n) => some n
    | _ => none

/-- what a call at a value comes to, over L -/
def CallR (Pr : Program) (B : World) (fv : Value) (vs : List Value) (L : List HP) (S : Value → List HP → Prop) (Sp : List PanicEntry → List HP → Prop) : Prop :=
  ∀ w, St B L w → CalV Pr fv vs w fun
    | .returned v, w' => ∃ L', St B L' w' ∧ S v L'
    | .panicked ch, w' => ∃ L', St B L' w' ∧ Sp ch L'
    | .outgrown, _ => False

/-- a loop's round is entered by hand -/
def Unrl : Prop := True
theorem unrl : Unrl := trivial

/-- a comparison of two values, as a proposition -/
class CmpR (o : BinOp) (v u : Value) (p : outParam Prop) : Prop where h : ∃ dp : Decidable p, ∀ (Pr : Program) (t : TypeId) (x y : Operand) (w : World), (do eqGuard o t x y v u; binOp o t v u : Sem Value).run Pr w = .ok (.bool (@decide p dp)) w
instance (k : IntKind) (m n : Int) : CmpR .lss (.int k m) (.int k n) (m < n) := ⟨inferInstance, fun Pr t x y w => by simp [eqGuard_lss, binOp, Op.intCmp]⟩
instance (k : IntKind) (m n : Int) : CmpR .leq (.int k m) (.int k n) (m ≤ n) := ⟨inferInstance, fun Pr t x y w => by simp [eqGuard_leq, binOp, Op.intCmp]⟩
instance (k : IntKind) (m n : Int) : CmpR .gtr (.int k m) (.int k n) (n < m) := ⟨inferInstance, fun Pr t x y w => by simp [eqGuard_gtr, binOp, Op.intCmp]⟩
instance (k : IntKind) (m n : Int) : CmpR .geq (.int k m) (.int k n) (n ≤ m) := ⟨inferInstance, fun Pr t x y w => by simp [eqGuard_geq, binOp, Op.intCmp]⟩
instance (k : IntKind) (m n : Int) : CmpR .eql (.int k m) (.int k n) (m = n) := ⟨inferInstance, fun Pr t x y w => by simp [eqGuard_at_int, binOp, Op.intCmp, Bool.beq_eq_decide_eq]⟩
instance (k : IntKind) (m n : Int) : CmpR .neq (.int k m) (.int k n) (¬ m = n) := ⟨inferInstance, fun Pr t x y w => by simp [eqGuard_at_int, binOp, Op.intCmp, bne, Bool.beq_eq_decide_eq]⟩
theorem str_eq (a b : ByteArray) : (a.toList == b.toList) = decide (a = b) := by
  rw [ByteArray.toList_eq, ByteArray.toList_eq, Bool.eq_iff_iff]
  simp only [beq_iff_eq, decide_eq_true_eq]
  constructor
  · intro h; exact ByteArray.ext (Array.toList_inj.1 h)
  · intro h; rw [h]
instance (m n : ByteArray) : CmpR .eql (.string m) (.string n) (m = n) := ⟨inferInstance, fun Pr t x y w => by simp [eqGuard_at_string, binOp, Op.stringOp, str_eq]⟩
instance (m n : ByteArray) : CmpR .neq (.string m) (.string n) (¬ m = n) := ⟨inferInstance, fun Pr t x y w => by simp [eqGuard_at_string, binOp, Op.stringOp, str_eq]⟩

/-- what an operation of two values comes to, where s holds -/
class BinR (Pr : Program) (o : BinOp) (t : Nat) (v u : Value) (r : outParam Value) (s : outParam Prop) : Prop where h : s → ∀ (x y : Operand) (w : World), (do eqGuard o t x y v u; binOp o t v u : Sem Value).run Pr w = .ok r w
instance (t : Nat) (k : IntKind) (m n : Int) : BinR Pr .add t (.int k m) (.int k n) (.int k (m + n)) (kin k (m + n)) := ⟨fun s x y w => by simp [eqGuard_add, binOp, Op.intArith, wrap_kin s]⟩
instance (t : Nat) (k : IntKind) (m n : Int) : BinR Pr .sub t (.int k m) (.int k n) (.int k (m - n)) (kin k (m - n)) := ⟨fun s x y w => by simp [eqGuard_sub, binOp, Op.intArith, wrap_kin s]⟩
instance (t : Nat) (k : IntKind) (m n : Int) : BinR Pr .mul t (.int k m) (.int k n) (.int k (m * n)) (kin k (m * n)) := ⟨fun s x y w => by simp [eqGuard_mul, binOp, Op.intArith, wrap_kin s]⟩
instance (t : Nat) (m n : ByteArray) : BinR Pr .add t (.string m) (.string n) (.string (m ++ n)) ((m.size : Int) + n.size ≤ 9223372036854775807) := ⟨fun s x y w => by simp [eqGuard_add, binOp, Op.stringOp]; exact s⟩
theorem eqGuard_other {o : BinOp} {t : TypeId} {x y : Operand} {k k' : IntKind} {m n : Int} (w : World) : (eqGuard o t x y (.int k m) (.int k' n)).run Pr w = .ok () w := by
  unfold eqGuard
  cases o <;> simp
instance (t : Nat) (k : IntKind) (m n : Int) : BinR Pr .quo t (.int k m) (.int k n) (.int k (m / n)) (0 ≤ m ∧ 0 < n ∧ kin k (m / n)) := ⟨fun s x y w => by
  obtain ⟨a, b, c⟩ := s
  have : m.tdiv n = m / n := Int.tdiv_eq_ediv_of_nonneg a
  simp only [Sem.run_bind, eqGuard_other, Result.andThen_ok]
  simp [binOp, Op.intDiv, this, wrap_kin c, show ¬ n = 0 by omega]⟩
instance (t : Nat) (k : IntKind) (m n : Int) : BinR Pr .rem t (.int k m) (.int k n) (.int k (m % n)) (0 ≤ m ∧ 0 < n) := ⟨fun s x y w => by
  obtain ⟨a, b⟩ := s
  have : m.tmod n = m % n := Int.tmod_eq_emod_of_nonneg a
  simp only [Sem.run_bind, eqGuard_other, Result.andThen_ok]
  simp [binOp, Op.intDiv, this, show ¬ n = 0 by omega]⟩
instance (t : Nat) (k k' : IntKind) (m n : Int) : BinR Pr .shr t (.int k m) (.int k' n) (.int k (m / (2 ^ n.toNat : Nat))) (0 ≤ n ∧ n ≤ k.bits) := ⟨fun s x y w => by
  obtain ⟨a, b⟩ := s
  simp only [Sem.run_bind, eqGuard_other, Result.andThen_ok]
  have h1 : ¬ n < 0 := by omega
  have h2 : min n.toNat k.bits = n.toNat := by omega
  simp only [binOp, Op.shift, h1, if_false, h2]
  rw [Int.fdiv_eq_ediv_of_nonneg _ (by exact Int.pow_nonneg (by omega))]
  simp⟩
instance (t : Nat) (k k' : IntKind) (m n : Int) : BinR Pr .shl t (.int k m) (.int k' n) (.int k (k.wrap (m * (2 ^ n.toNat : Nat)))) (0 ≤ n ∧ n ≤ k.bits) := ⟨fun s x y w => by
  obtain ⟨a, b⟩ := s
  simp only [Sem.run_bind, eqGuard_other, Result.andThen_ok]
  have h1 : ¬ n < 0 := by omega
  have h2 : min n.toNat k.bits = n.toNat := by omega
  simp only [binOp, Op.shift, h1, if_false, h2]
  simp⟩
instance (priority := high) (t : Nat) (k k' : IntKind) (m : Int) : BinR Pr .shr t (.int k m) (.int k' 1) (.int k (m / 2)) True := ⟨fun _ x y w => by have := (inferInstance : BinR Pr .shr t (.int k m) (.int k' 1) _ _).h ⟨by omega, by cases k <;> simp [IntKind.bits]⟩ x y w; simpa using this⟩
instance (priority := high) (t : Nat) (k k' : IntKind) (m : Int) : BinR Pr .shr t (.int k m) (.int k' 4) (.int k (m / 16)) True := ⟨fun _ x y w => by have := (inferInstance : BinR Pr .shr t (.int k m) (.int k' 4) _ _).h ⟨by omega, by cases k <;> simp [IntKind.bits]⟩ x y w; simpa using this⟩
instance (priority := high) (t : Nat) (k k' : IntKind) (m : Int) : BinR Pr .shr t (.int k m) (.int k' 8) (.int k (m / 256)) True := ⟨fun _ x y w => by have := (inferInstance : BinR Pr .shr t (.int k m) (.int k' 8) _ _).h ⟨by omega, by cases k <;> simp [IntKind.bits]⟩ x y w; simpa using this⟩
instance (priority := high) (t : Nat) (k k' : IntKind) (m : Int) : BinR Pr .shl t (.int k m) (.int k' 4) (.int k (m * 16)) (kin k (m * 16)) := ⟨fun s x y w => by have := (inferInstance : BinR Pr .shl t (.int k m) (.int k' 4) _ _).h ⟨by omega, by cases k <;> simp [IntKind.bits]⟩ x y w; simpa [wrap_kin s] using this⟩
instance (priority := high) (t : Nat) (k k' : IntKind) (m : Int) : BinR Pr .shl t (.int k m) (.int k' 8) (.int k (m * 256)) (kin k (m * 256)) := ⟨fun s x y w => by have := (inferInstance : BinR Pr .shl t (.int k m) (.int k' 8) _ _).h ⟨by omega, by cases k <;> simp [IntKind.bits]⟩ x y w; simpa [wrap_kin s] using this⟩
theorem run_bits {o : BinOp} (ho : o = .and ∨ o = .or ∨ o = .xor) {k : IntKind} {m n : Int} (t : TypeId) (x y : Operand) (w : World) : (do eqGuard o t x y (.int k m) (.int k n); binOp o t (.int k m) (.int k n) : Sem Value).run Pr w = .ok (.int k (bits o k m n)) w := by
  simp only [Sem.run_bind, eqGuard_other, Result.andThen_ok]
  rcases ho with rfl | rfl | rfl <;> simp [binOp, Op.intBits, bits]
instance (t : Nat) (m n : Int) : BinR Pr .or t (.int .u64 m) (.int .u64 n) (.int .u64 ((m.toNat ||| n.toNat : Nat) : Int)) (0 ≤ m ∧ m < 18446744073709551616 ∧ 0 ≤ n ∧ n < 18446744073709551616) := ⟨fun ⟨a, b, c, d⟩ x y w => by rw [run_bits (by simp), u64_or m n a b c d]⟩

theorem i64_bits {o : Nat → Nat → Nat} {m n : Int} (h1 : 0 ≤ m) (h2 : m < 9223372036854775808) (h3 : 0 ≤ n) (h4 : n < 9223372036854775808) (hlt : o m.toNat n.toNat < 9223372036854775808) (f : BitVec 64 → BitVec 64 → BitVec 64) (hf : ∀ a b, (f a b).toNat = o a.toNat b.toNat) :
    IntKind.i64.wrap ((f (BitVec.ofInt 64 m) (BitVec.ofInt 64 n)).toNat : Nat) = ((o m.toNat n.toNat : Nat) : Int) := by
  have e1 : (BitVec.ofInt 64 m).toNat = m.toNat := by rw [BitVec.toNat_ofInt]; omega
  have e2 : (BitVec.ofInt 64 n).toNat = n.toNat := by rw [BitVec.toNat_ofInt]; omega
  rw [hf, e1, e2]
  exact wrap_kin (by simp only [kin]; omega)
instance (t : Nat) (m n : Int) : BinR Pr .or t (.int .i64 m) (.int .i64 n) (.int .i64 ((m.toNat ||| n.toNat : Nat) : Int)) (0 ≤ m ∧ m < 9223372036854775808 ∧ 0 ≤ n ∧ n < 9223372036854775808) := ⟨fun ⟨a, b, c, d⟩ x y w => by
  rw [run_bits (by simp)]
  have := Nat.or_lt_two_pow (x := m.toNat) (y := n.toNat) (n := 63) (by omega) (by omega)
  have h := i64_bits (o := fun a b => a ||| b) a b c d (by omega) (fun a b => a ||| b) (fun a b => BitVec.toNat_or a b)
  rw [← h]; rfl⟩
instance (t : Nat) (m n : Int) : BinR Pr .and t (.int .i64 m) (.int .i64 n) (.int .i64 ((m.toNat &&& n.toNat : Nat) : Int)) (0 ≤ m ∧ m < 9223372036854775808 ∧ 0 ≤ n ∧ n < 9223372036854775808) := ⟨fun ⟨a, b, c, d⟩ x y w => by
  rw [run_bits (by simp)]
  have : m.toNat &&& n.toNat ≤ m.toNat := Nat.and_le_left
  have h := i64_bits (o := fun a b => a &&& b) a b c d (by omega) (fun a b => a &&& b) (fun a b => BitVec.toNat_and a b)
  rw [← h]; rfl⟩

/-- .. of one value -/
class UnR (o : UnOp) (v : Value) (r : outParam Value) (s : outParam Prop) : Prop where h : s → ∀ (Pr : Program) (w : World), (Op.unary o v : Sem Value).run Pr w = .ok r w
instance (b : Bool) : UnR .not (.bool b) (.bool (!b)) True := ⟨fun _ Pr w => rfl⟩
instance (k : IntKind) (n : Int) : UnR .neg (.int k n) (.int k (k.wrap (0 - n))) True := ⟨fun _ Pr w => rfl⟩
instance (n : Int) : UnR .xor (.int .u32 n) (.int .u32 (4294967295 - n)) (0 ≤ n ∧ n < 4294967296) := ⟨fun ⟨a, b⟩ Pr w => by
  have e : (Op.unary .xor (.int .u32 n) : Sem Value).run Pr w = .ok (.int .u32 (bits .xor .u32 4294967295 n)) w := by simp [Op.unary, Op.intBits, bits, IntKind.signed, IntKind.max, IntKind.bits]
  rw [e, u32_xor _ _ (by omega) (by omega) a b]
  have h1 : (4294967295 : Int).toNat = 2 ^ 32 - 1 := by decide
  have h2 : n.toNat < 2 ^ 32 := by omega
  have : (2 ^ 32 - 1) ^^^ n.toNat = 4294967295 - n.toNat := by
    apply Nat.eq_of_testBit_eq
    intro i
    rw [show (4294967295 : Nat) - n.toNat = 2 ^ 32 - (n.toNat + 1) by omega, Nat.testBit_two_pow_sub_succ h2, Nat.testBit_xor, Nat.testBit_two_pow_sub_one]
    by_cases hi : i < 32
    · simp [hi]
    · have : n.toNat.testBit i = false := Nat.testBit_lt_two_pow (Nat.lt_of_lt_of_le h2 (Nat.pow_le_pow_right (by omega) (by omega)))
      simp [hi, this]
  rw [h1, this]
  congr 2
  omega⟩

/-- is an interface's value nil -/
def nilQ : Value → Option Bool
  | .nilIface => some true
  | .iface _ _ => some false
  | _ => none
theorem run_eqNil {t : Nat} {x : Operand} {v : Value} {q : Bool} [ti : TIf Pr t] (h : nilQ v = some q) (w : World) :
    (do eqGuard .eql t x (.const .nilIface) v .nilIface; binOp .eql t v .nilIface : Sem Value).run Pr w = .ok (.bool q) w ∧ (do eqGuard .neq t x (.const .nilIface) v .nilIface; binOp .neq t v .nilIface : Sem Value).run Pr w = .ok (.bool !q) w := by
  have hi := ti.h
  cases hu : Pr.underlying t with
  | none => rw [hu] at hi; cases hi
  | some dd =>
    rw [hu] at hi
    cases dd <;> simp [ifD] at hi
    rename_i ms
    cases v <;> simp [nilQ] at h <;> subst h
    · rename_i ti' vi
      have h1 : ∀ d, (Op.equalIn (d + 1) t (.iface ti' vi) .nilIface).run Pr w = .ok false w := fun d => by simp [Op.equalIn, run_underlying hu]
      have h2 : (Op.equal t (.iface ti' vi) .nilIface).run Pr w = .ok false w := h1 9999
      constructor <;> simp only [eqGuard, Sem.run_bind] <;> simp [binOp, h2]
    · have h1 : ∀ d, (Op.equalIn (d + 1) t .nilIface .nilIface).run Pr w = .ok true w := fun d => by simp [Op.equalIn, run_underlying hu]
      have h2 : (Op.equal t .nilIface .nilIface).run Pr w = .ok true w := h1 9999
      constructor <;> simp only [eqGuard, Sem.run_bind] <;> simp [binOp, h2]

/-- n times the same cells -/
class Zs (z : List Value) (n : Nat) (r : outParam (List Value)) : Prop where h : r = zeros z n
class Ap (l m : List Value) (n : outParam (List Value)) : Prop where h : n = l ++ m
instance (m : List Value) : Ap [] m m := ⟨rfl⟩
instance (a : Value) (l m n : List Value) [x : Ap l m n] : Ap (a :: l) m (a :: n) := ⟨by rw [x.h]; rfl⟩
instance (z : List Value) : Zs z 0 [] := ⟨rfl⟩
instance (z zs r : List Value) (n : Nat) [a : Zs z n zs] [b : Ap z zs r] : Zs z (n + 1) r := ⟨by rw [b.h, a.h]; rfl⟩

class App (L M : List HP) (N : outParam (List HP)) : Prop where h : N = L ++ M
instance (M : List HP) : App [] M M := ⟨rfl⟩
instance (A : HP) (L M N : List HP) [x : App L M N] : App (A :: L) M (A :: N) := ⟨by rw [x.h]; rfl⟩

section
variable (Pr : Program) (B : World)
/-- an operation that reads alone, and its value -/
inductive PV (ρ : Env) (L : List HP) : PC → Value → Prop
  | mv {x ty v} (e : evo ρ x = some v) : PV ρ L (.op (.move x) ty) v
  | pick {c x y ty q v} (e : evo ρ c = some (.bool q)) (e' : evo ρ (bif q then x else y) = some v) : PV ρ L (.op (.pick c x y) ty) v
  | fieldAddr {s f x ty bb o off ft} [tf : TF Pr s f off ft] (e : evo ρ x = some (.pointer (some ⟨bb, o, none⟩))) : PV ρ L (.op (.fieldAddr s x f) ty) (.pointer (some ⟨bb, o + off, none⟩))
  | load {t x ty a v} (e : evo ρ x = some a) (h : PV ρ L (.ld t a) v) : PV ρ L (.op (.load t x) ty) v
  | ld1 {t bb o T cs fr v} [t1 : T1 Pr t] [hb : Has B L bb (.cells (List.toArray cs) T fr)] (ec : cs[o]? = some v) : PV ρ L (.ld t (.pointer (some ⟨bb, o, none⟩))) v
  | ldA {t n bb o T cs fr vs} [ta : TA Pr t n] [hb : Has B L bb (.cells (List.toArray cs) T fr)] (ec : ldn cs o n = some vs) : PV ρ L (.ld t (.pointer (some ⟨bb, o, none⟩))) (.agg (List.toArray vs))
  | ldS {t a v} (h : ∀ w, St B L w → ∃ w', (Instr.loadAt t a).run Pr w = .ok v w' ∧ St B L w') : PV ρ L (.ld t a) v
  | nilCheck {x ty a} (e : evo ρ x = some (.pointer (some a))) : PV ρ L (.op (.nilCheck x) ty) (.pointer (some a))
  | binop {o t x y yt ty v u r} (e : evo ρ x = some v) (e' : evo ρ y = some u) (h : PV ρ L (.bin o t v u) r) : PV ρ L (.op (.binOp o t x y yt) ty) r
  | cT {o t v u p} [c : CmpR o v u p] (h : p) : PV ρ L (.bin o t v u) (.bool true)
  | cF {o t v u p} [c : CmpR o v u p] (h : ¬ p) : PV ρ L (.bin o t v u) (.bool false)
  | eqlN {t v u q} [hq : EqN Pr t v u q] : PV ρ L (.bin .eql t v u) (.bool q)
  | neqN {t v u q} [hq : EqN Pr t v u q] : PV ρ L (.bin .neq t v u) (.bool (!q))
  | binR {o t v u r s} [c : BinR Pr o t v u r s] (h : s) : PV ρ L (.bin o t v u) r
  | bnot {t x ty q} (e : evo ρ x = some (.bool q)) : PV ρ L (.op (.unOp .not t x) ty) (.bool (!q))
  | cvt {s t x ty kd kd' n} [tu : TU Pr t (.int kd')] [ts : TUs Pr s] (e : evo ρ x = some (.int kd n)) (sd : kin kd' n) : PV ρ L (.op (.convert s t x) ty) (.int kd' n)
  | extract {x i ty vs v} (e : evo ρ x = some (.tuple (List.toArray vs))) (e' : vs[i]? = some v) : PV ρ L (.op (.extract x i) ty) v
  | lenL {ty t x a n c} [tu : TSl Pr t] (e : evo ρ x = some (.slice a n c)) : PV ρ L (.op (.call { callee := .builtin .len, args := #[x], argTypes := #[t] }) ty) (.int .i64 n)
  | lenS {ty t x s} [tu : TU Pr t .string] (e : evo ρ x = some (.string s)) : PV ρ L (.op (.call { callee := .builtin .len, args := #[x], argTypes := #[t] }) ty) (.int .i64 s.size)
  | indexAddr {t x i ty v kd j r} (ex : evo ρ x = some v) (ei : evo ρ i = some (.int kd j)) (h : PV ρ L (.ia t v kd j) r) : PV ρ L (.op (.indexAddr t x i) ty) r
  | iaN {t e sz by' bb o n c kd j m} [ts : TS Pr t e sz by'] [hj : IsNat j m] (s : m < n) : PV ρ L (.ia t (.slice (some ⟨bb, o, none⟩) n c) kd j) (.pointer (some ⟨bb, o + m * sz, none⟩))
  | iaZ {t e sz by' bb o} {n : Nat} {c kd} {j : Int} [ts : TS Pr t e sz by'] (s : 0 ≤ j ∧ j < n) : PV ρ L (.ia t (.slice (some ⟨bb, o, none⟩) n c) kd j) (.pointer (some ⟨bb, o + j.toNat * sz, none⟩))
  | iaA {t nn e sz bb o kd j m} [ts : TAr Pr t nn e sz] [hj : IsNat j m] (s : m < nn) : PV ρ L (.ia t (.pointer (some ⟨bb, o, none⟩)) kd j) (.pointer (some ⟨bb, o + m * sz, none⟩))
  | build {t ps ty z fl pv r} [tb : TB Pr t z fl] (e : evp ρ (fun i => fl[i]?) ps.toList = some pv) (h : PV ρ L (.bd t z pv) r) : PV ρ L (.op (.build t ps) ty) r
  | bdF {t z pv cs} [hf : Fill z pv cs] : PV ρ L (.bd t z pv) (.agg (List.toArray cs))
  | field {x s f ty off ft cs v} [tf : TF Pr s f off ft] [t1 : T1 Pr ft] (e : evo ρ x = some (.agg (List.toArray cs))) (ec : cs[off]? = some v) : PV ρ L (.op (.field s x f) ty) v
  | makeFunc {fn fs cp ty v1 v2} (e : evl ρ fs.toList = some v1) (e' : evl ρ cp.toList = some v2) : PV ρ L (.op (.makeFunc fn fs cp) ty) (.func fn (List.toArray v1) (List.toArray v2))
  | slice {t x lo hi mx ty e sz by' bb o n c l hh m} [ts : TS Pr t e sz by'] (ex : evo ρ x = some (.slice (some ⟨bb, o, none⟩) n c)) (em : cutAt ρ c mx = some m) (eh : cutAt ρ n hi = some hh) (el : cutAt ρ 0 lo = some l) (s : 0 ≤ l ∧ l ≤ hh ∧ hh ≤ m ∧ m ≤ c) (hm : mx.isSome = true → hi.isSome = true) :
      PV ρ L (.op (.slice t x lo hi mx) ty) (.slice (some ⟨bb, if m.toNat = l.toNat then o else o + l.toNat * sz, none⟩) (hh.toNat - l.toNat) (m.toNat - l.toNat))
  | minI {ty ts x y kd m n} (e : evo ρ x = some (.int kd m)) (e' : evo ρ y = some (.int kd n)) : PV ρ L (.op (.call { callee := .builtin .min, args := #[x, y], argTypes := ts }) ty) (.int kd (min m n))
  | maxI {ty ts x y kd m n} (e : evo ρ x = some (.int kd m)) (e' : evo ρ y = some (.int kd n)) : PV ρ L (.op (.call { callee := .builtin .max, args := #[x, y], argTypes := ts }) ty) (.int kd (max m n))
  | opS {o ty v} (h : PVs Pr B ρ L o ty v) : PV ρ L (.op o ty) v

inductive StG (ρ : Env) (L : List HP) : Bool → Oper → Value → Prop
  | yes {o ty dst ps af gu v} (p : PV Pr B ρ L (.op o ty) v) : StG ρ L true { op := o, type := ty, dst := dst, pos := ps, after := af, guard := gu } v
  | no {oo} : StG ρ L false oo undef
inductive StL (N : Nat) (ops : Array Oper) (ρ : Env) (L : List HP) : List (Nat × Nat × Value) → Prop
  | nil : StL N ops ρ L []
  | cons {i s v l oo t} (e : ops[i]? = some oo) (b : Nat.blt s N = true) (g : gd ops ρ oo.guard = some t) (h : StG Pr B ρ L t oo v) (r : StL N ops ρ L l) : StL N ops ρ L ((i, s, v) :: l)
end

section
variable (Pr : Program) (B : World) (N : Nat) (ro : Option Nat) (Q : Post)

inductive W : Cf → Env → List Deferred → List HP → Prop
  | app {c ρ d L M L'} [x : App L M L'] (h : W c ρ d L') : W c ρ d (L ++ M)
  -- structure
  | skip {k ρ d L} (h : W (.run (.it k)) ρ d L) : W (.run (.it (.code .skip :: k))) ρ d L
  | label {l k ρ d L} (h : W (.run (.it k)) ρ d L) : W (.run (.it (.code (.label l) :: k))) ρ d L
  | seq {x y k ρ d L} (h : W (.run (.it (.code x :: .code y :: k))) ρ d L) : W (.run (.it (.code (.seq x y) :: k))) ρ d L
  | cond {c x y k ρ d L t} (e : evo ρ c = some (.bool t)) (h : W (.brn t x y k) ρ d L) : W (.run (.it (.code (.cond c x y) :: k))) ρ d L
  | brnT {x y k ρ d L} (h : W (.run (.it (.code x :: k))) ρ d L) : W (.brn true x y k) ρ d L
  | brnF {x y k ρ d L} (h : W (.run (.it (.code y :: k))) ρ d L) : W (.brn false x y k) ρ d L
  | brnD {x y k ρ d L} {p : Prop} [dp : Decidable p] (h : p → W (.run (.it (.code x :: k))) ρ d L) (h' : ¬p → W (.run (.it (.code y :: k))) ρ d L) : W (.brn (decide p) x y k) ρ d L
  | block {id c k ρ d L} (h : W (.run (.it (.code c :: .inBlock id :: k))) ρ d L) : W (.run (.it (.code (.block id c) :: k))) ρ d L
  | inBlock {id k ρ d L} (h : W (.run (.it k)) ρ d L) : W (.run (.it (.inBlock id :: k))) ρ d L
  | scope {c k ρ d L} (h : W (.run (.it (.code c :: .inScope c :: k))) ρ d L) : W (.run (.it (.code (.scope c) :: k))) ρ d L
  | inScope {c k ρ d L} (h : W (.run (.it k)) ρ d L) : W (.run (.it (.inScope c :: k))) ρ d L
  | exit {id k k' ρ d L} (e : exitTo id k = some k') (h : W (.run (.it k')) ρ d L) : W (.run (.it (.code (.exit id) :: k))) ρ d L
  | region {id ops k ρ d L} (h : W (.run (.it (.inRegion ops (List.range ops.size) :: k))) ρ d L) : W (.run (.it (.code (.region id ops false) :: k))) ρ d L
  | regionEnd {ops k ρ d L} (h : W (.run (.it k)) ρ d L) : W (.run (.it (.inRegion ops [] :: k))) ρ d L
  | oper {ops i r k ρ d L oo t} (e : ops[i]? = some oo) (g : gd ops ρ oo.guard = some t) (h : W (.grd t oo (.it (.inRegion ops r :: k))) ρ d L) : W (.run (.it (.inRegion ops (i :: r) :: k))) ρ d L
  | grdT {o ty dst ps af gu k ρ d L} (h : W (.op o ty dst k) ρ d L) : W (.grd true { op := o, type := ty, dst := dst, pos := ps, after := af, guard := gu } k) ρ d L
  | grdF {o ty t ps af gu k ρ d L} (e : Nat.blt t N = true) (h : W (.run k) ((t, undef) :: ρ) d L) : W (.grd false { op := o, type := ty, dst := some t, pos := ps, after := af, guard := gu } k) ρ d L
  | grdG {o ty ps af gu k ρ d L} (h : W (.run k) ρ d L) : W (.grd false { op := o, type := ty, dst := none, pos := ps, after := af, guard := gu } k) ρ d L
  -- operations
  | mv {x ty t k ρ d L v} (e : evo ρ x = some v) (b : Nat.blt t N = true) (h : W (.run k) ((t, v) :: ρ) d L) : W (.op (.move x) ty (some t) k) ρ d L
  | asg {x ty t k ρ d L v} (e : evo ρ x = some v) (b : Nat.blt t N = true) (h : W (.run k) ((t, v) :: ρ) d L) : W (.op (.assign x) ty (some t) k) ρ d L
  | pick {c x y ty t k ρ d L q v} (e : evo ρ c = some (.bool q)) (e' : evo ρ (bif q then x else y) = some v) (b : Nat.blt t N = true) (h : W (.run k) ((t, v) :: ρ) d L) : W (.op (.pick c x y) ty (some t) k) ρ d L
  | fieldAddr {s f x ty t k ρ d L bb o off ft} [tf : TF Pr s f off ft] (e : evo ρ x = some (.pointer (some ⟨bb, o, none⟩))) (b : Nat.blt t N = true)
      (h : W (.run k) ((t, .pointer (some ⟨bb, o + off, none⟩)) :: ρ) d L) : W (.op (.fieldAddr s x f) ty (some t) k) ρ d L
  | load {t x ty dst k ρ d L v} (e : evo ρ x = some v) (h : W (.ld t v dst k) ρ d L) : W (.op (.load t x) ty (some dst) k) ρ d L
  | ld1 {t dst k ρ d L bb o T cs fr v} [t1 : T1 Pr t] [hb : Has B L bb (.cells (List.toArray cs) T fr)] (ec : cs[o]? = some v) (b : Nat.blt dst N = true) (h : W (.run k) ((dst, v) :: ρ) d L) : W (.ld t (.pointer (some ⟨bb, o, none⟩)) dst k) ρ d L
  | ldA {t n dst k ρ d L bb o T cs fr vs} [ta : TA Pr t n] [hb : Has B L bb (.cells (List.toArray cs) T fr)] (ec : ldn cs o n = some vs) (b : Nat.blt dst N = true) (h : W (.run k) ((dst, .agg (List.toArray vs)) :: ρ) d L) : W (.ld t (.pointer (some ⟨bb, o, none⟩)) dst k) ρ d L
  | ldS {t a v dst k ρ d L} (hs : ∀ w, St B L w → ∃ w', (Instr.loadAt t a).run Pr w = .ok v w' ∧ St B L w') (b : Nat.blt dst N = true) (h : W (.run k) ((dst, v) :: ρ) d L) : W (.ld t a dst k) ρ d L
  | store {t x y ty k ρ d L u v} (e : evo ρ x = some u) (e' : evo ρ y = some v) (h : W (.st t u v k) ρ d L) : W (.op (.store t x y) ty none k) ρ d L
  | sto {t k ρ d L L' bb o T cs cs' v vs n} [ce : Cels v vs] [hz : TZn Pr t n] [hl : LenIs vs n] [hp : PickPt L bb (.cells (List.toArray cs) T (0, 0)) L'] [hs : SetS cs o vs cs'] (h : W (.run k) ρ d (cl bb T cs' :: L')) : W (.st t (.pointer (some ⟨bb, o, none⟩)) v k) ρ d L
  | stS {t u v k ρ d L L'} (hs : ∀ w, St B L w → ∃ w', (Instr.storeAt t u v).run Pr w = .ok () w' ∧ St B L' w') (h : W (.run k) ρ d L') : W (.st t u v k) ρ d L
  | nilCheck {x ty t k ρ d L a} (e : evo ρ x = some (.pointer (some a))) (b : Nat.blt t N = true) (h : W (.run k) ((t, .pointer (some a)) :: ρ) d L) : W (.op (.nilCheck x) ty (some t) k) ρ d L
  | add {t dst k ρ d L kd m n} (b : Nat.blt dst N = true) (h : W (.run k) ((dst, .int kd (m + n)) :: ρ) d L) (s : kin kd (m + n)) : W (.bin .add t (.int kd m) (.int kd n) dst k) ρ d L
  | sub {t dst k ρ d L kd m n} (b : Nat.blt dst N = true) (h : W (.run k) ((dst, .int kd (m - n)) :: ρ) d L) (s : kin kd (m - n)) : W (.bin .sub t (.int kd m) (.int kd n) dst k) ρ d L
  | mul {t dst k ρ d L kd m n} (b : Nat.blt dst N = true) (h : W (.run k) ((dst, .int kd (m * n)) :: ρ) d L) (s : kin kd (m * n)) : W (.bin .mul t (.int kd m) (.int kd n) dst k) ρ d L
  | lss {t dst k ρ d L kd m n} (b : Nat.blt dst N = true) (h : m < n → W (.run k) ((dst, .bool true) :: ρ) d L) (h' : ¬ m < n → W (.run k) ((dst, .bool false) :: ρ) d L) : W (.bin .lss t (.int kd m) (.int kd n) dst k) ρ d L
  | leq {t dst k ρ d L kd m n} (b : Nat.blt dst N = true) (h : m ≤ n → W (.run k) ((dst, .bool true) :: ρ) d L) (h' : ¬ m ≤ n → W (.run k) ((dst, .bool false) :: ρ) d L) : W (.bin .leq t (.int kd m) (.int kd n) dst k) ρ d L
  | gtr {t dst k ρ d L kd m n} (b : Nat.blt dst N = true) (h : n < m → W (.run k) ((dst, .bool true) :: ρ) d L) (h' : ¬ n < m → W (.run k) ((dst, .bool false) :: ρ) d L) : W (.bin .gtr t (.int kd m) (.int kd n) dst k) ρ d L
  | geq {t dst k ρ d L kd m n} (b : Nat.blt dst N = true) (h : n ≤ m → W (.run k) ((dst, .bool true) :: ρ) d L) (h' : ¬ n ≤ m → W (.run k) ((dst, .bool false) :: ρ) d L) : W (.bin .geq t (.int kd m) (.int kd n) dst k) ρ d L
  | eql {t dst k ρ d L kd m n} (b : Nat.blt dst N = true) (h : m = n → W (.run k) ((dst, .bool true) :: ρ) d L) (h' : ¬ m = n → W (.run k) ((dst, .bool false) :: ρ) d L) : W (.bin .eql t (.int kd m) (.int kd n) dst k) ρ d L
  | neq {t dst k ρ d L kd m n} (b : Nat.blt dst N = true) (h : m = n → W (.run k) ((dst, .bool false) :: ρ) d L) (h' : ¬ m = n → W (.run k) ((dst, .bool true) :: ρ) d L) : W (.bin .neq t (.int kd m) (.int kd n) dst k) ρ d L
  | eqlS {t dst k ρ d L m n} (b : Nat.blt dst N = true) (h : m = n → W (.run k) ((dst, .bool true) :: ρ) d L) (h' : ¬ m = n → W (.run k) ((dst, .bool false) :: ρ) d L) : W (.bin .eql t (.string m) (.string n) dst k) ρ d L
  | neqS {t dst k ρ d L m n} (b : Nat.blt dst N = true) (h : m = n → W (.run k) ((dst, .bool false) :: ρ) d L) (h' : ¬ m = n → W (.run k) ((dst, .bool true) :: ρ) d L) : W (.bin .neq t (.string m) (.string n) dst k) ρ d L
  | eqlN {t dst k ρ d L v u q} [hq : EqN Pr t v u q] (b : Nat.blt dst N = true) (h : W (.run k) ((dst, .bool q) :: ρ) d L) : W (.bin .eql t v u dst k) ρ d L
  | neqN {t dst k ρ d L v u q} [hq : EqN Pr t v u q] (b : Nat.blt dst N = true) (h : W (.run k) ((dst, .bool (!q)) :: ρ) d L) : W (.bin .neq t v u dst k) ρ d L
  | sadd {t dst k ρ d L m n} (b : Nat.blt dst N = true) (h : W (.run k) ((dst, .string (m ++ n)) :: ρ) d L) (s : (m.size : Int) + n.size ≤ 9223372036854775807) : W (.bin .add t (.string m) (.string n) dst k) ρ d L
  | bitX {t dst k ρ d L m n} (b : Nat.blt dst N = true) (h : ∀ r : Int, 0 ≤ r ∧ r < 4294967296 ∧ r = ((m.toNat ^^^ n.toNat : Nat) : Int) → W (.run k) ((dst, .int .u32 r) :: ρ) d L) (sd : 0 ≤ m ∧ m < 4294967296 ∧ 0 ≤ n ∧ n < 4294967296) : W (.bin .xor t (.int .u32 m) (.int .u32 n) dst k) ρ d L
  | bitA {t dst k ρ d L m n} (b : Nat.blt dst N = true) (h : ∀ r : Int, 0 ≤ r ∧ r ≤ m ∧ r ≤ n ∧ r = ((m.toNat &&& n.toNat : Nat) : Int) → W (.run k) ((dst, .int .u32 r) :: ρ) d L) (sd : 0 ≤ m ∧ m < 4294967296 ∧ 0 ≤ n ∧ n < 4294967296) : W (.bin .and t (.int .u32 m) (.int .u32 n) dst k) ρ d L
  | binR {o t dst k ρ d L v u r s} [c : BinR Pr o t v u r s] (b : Nat.blt dst N = true) (h : W (.run k) ((dst, r) :: ρ) d L) (sd : s) : W (.bin o t v u dst k) ρ d L
  | eqNil {t x yt ty dst k ρ d L v q} [ti : TIf Pr t] (e : evo ρ x = some v) (hq : nilQ v = some q) (b : Nat.blt dst N = true) (h : W (.run k) ((dst, .bool q) :: ρ) d L) : W (.op (.binOp .eql t x (.const .nilIface) yt) ty (some dst) k) ρ d L
  | neNil {t x yt ty dst k ρ d L v q} [ti : TIf Pr t] (e : evo ρ x = some v) (hq : nilQ v = some q) (b : Nat.blt dst N = true) (h : W (.run k) ((dst, .bool (!q)) :: ρ) d L) : W (.op (.binOp .neq t x (.const .nilIface) yt) ty (some dst) k) ρ d L
  | tAs {s t x ty dst k ρ d L v} [tn : TN Pr t] (e : evo ρ x = some (.iface t v)) (b : Nat.blt dst N = true) (h : W (.run k) ((dst, .tuple #[v, .bool true]) :: ρ) d L) : W (.op (.typeAssert x s t true) ty (some dst) k) ρ d L
  | binop {o t x y yt ty dst k ρ d L v u} (e : evo ρ x = some v) (e' : evo ρ y = some u) (h : W (.bin o t v u dst k) ρ d L) : W (.op (.binOp o t x y yt) ty (some dst) k) ρ d L
  | unop {o t x ty dst k ρ d L v} (e : evo ρ x = some v) (h : W (.un o v dst k) ρ d L) : W (.op (.unOp o t x) ty (some dst) k) ρ d L
  | unN {dst k ρ d L n} (b : Nat.blt dst N = true) (h : ∀ r : Int, 0 ≤ r ∧ r < 4294967296 ∧ r = IntKind.u32.wrap (0 - n) → W (.run k) ((dst, .int .u32 r) :: ρ) d L) : W (.un .neg (.int .u32 n) dst k) ρ d L
  | unR {o dst k ρ d L v r s} [c : UnR o v r s] (b : Nat.blt dst N = true) (h : W (.run k) ((dst, r) :: ρ) d L) (sd : s) : W (.un o v dst k) ρ d L
  | cvt {s t x ty dst k ρ d L kd kd' n} [tu : TU Pr t (.int kd')] [ts : TUs Pr s] (e : evo ρ x = some (.int kd n)) (h : W (.cv kd' kd n dst k) ρ d L) : W (.op (.convert s t x) ty (some dst) k) ρ d L
  | cv8 {dst k ρ d L n} (b : Nat.blt dst N = true) (h : W (.run k) ((dst, .int .u8 (n % 256)) :: ρ) d L) : W (.cv .u8 .u64 n dst k) ρ d L
  | cv8' {dst k ρ d L n} (b : Nat.blt dst N = true) (h : W (.run k) ((dst, .int .u8 (n % 256)) :: ρ) d L) : W (.cv .u8 .u32 n dst k) ρ d L
  | cvk {kd kd' dst k ρ d L n} (b : Nat.blt dst N = true) (h : W (.run k) ((dst, .int kd' n) :: ρ) d L) (sd : kin kd' n) : W (.cv kd' kd n dst k) ρ d L
  | extract {x i ty dst k ρ d L vs v} (e : evo ρ x = some (.tuple (List.toArray vs))) (e' : vs[i]? = some v) (b : Nat.blt dst N = true) (h : W (.run k) ((dst, v) :: ρ) d L) : W (.op (.extract x i) ty (some dst) k) ρ d L
  | lenL {ty dst k ρ d L t x a n c} [tu : TSl Pr t] (e : evo ρ x = some (.slice a n c)) (b : Nat.blt dst N = true) (h : W (.run k) ((dst, .int .i64 n) :: ρ) d L) : W (.op (.call { callee := .builtin .len, args := #[x], argTypes := #[t] }) ty (some dst) k) ρ d L
  | lenS {ty dst k ρ d L t x s} [tu : TU Pr t .string] (e : evo ρ x = some (.string s)) (b : Nat.blt dst N = true) (h : W (.run k) ((dst, .int .i64 s.size) :: ρ) d L) : W (.op (.call { callee := .builtin .len, args := #[x], argTypes := #[t] }) ty (some dst) k) ρ d L
  | lenM {ty dst k ρ d L t x v kt et} [tu : TU Pr t (.map kt et)] (e : evo ρ x = some v) (h : W (.lm v dst k) ρ d L) : W (.op (.call { callee := .builtin .len, args := #[x], argTypes := #[t] }) ty (some dst) k) ρ d L
  | lm1 {dst k ρ d L r es ck} [hb : Has B L r (.map es ck)] (b : Nat.blt dst N = true) (h : W (.run k) ((dst, .int .i64 es.size) :: ρ) d L) : W (.lm (.map (some r)) dst k) ρ d L
  | minI {ty dst k ρ d L ts x y kd m n} (e : evo ρ x = some (.int kd m)) (e' : evo ρ y = some (.int kd n)) (b : Nat.blt dst N = true) (h : W (.run k) ((dst, .int kd (min m n)) :: ρ) d L) : W (.op (.call { callee := .builtin .min, args := #[x, y], argTypes := ts }) ty (some dst) k) ρ d L
  | maxI {ty dst k ρ d L ts x y kd m n} (e : evo ρ x = some (.int kd m)) (e' : evo ρ y = some (.int kd n)) (b : Nat.blt dst N = true) (h : W (.run k) ((dst, .int kd (max m n)) :: ρ) d L) : W (.op (.call { callee := .builtin .max, args := #[x, y], argTypes := ts }) ty (some dst) k) ρ d L
  | build {t ps ty dst k ρ d L z fl pv} [tb : TB Pr t z fl] (e : evp ρ (fun i => fl[i]?) ps.toList = some pv) (h : W (.bd t z pv dst k) ρ d L) : W (.op (.build t ps) ty (some dst) k) ρ d L
  | bdF {t z pv cs dst k ρ d L} [hf : Fill z pv cs] (b : Nat.blt dst N = true) (h : W (.run k) ((dst, .agg (List.toArray cs)) :: ρ) d L) : W (.bd t z pv dst k) ρ d L
  | alloc {t ty dst k ρ d L z} [tz : TZ Pr t z] (b : Nat.blt dst N = true) (h : ∀ bb, W (.run k) ((dst, .pointer (some ⟨bb, 0, none⟩)) :: ρ) d (cl bb t z :: L)) : W (.op (.alloc t) ty (some dst) k) ρ d L
  | box {t x ty dst k ρ d L v} (e : evo ρ x = some v) (h : W (.bx t v dst k) ρ d L) : W (.op (.box t x) ty (some dst) k) ρ d L
  | bxC {t dst k ρ d L v cs} [ce : Cels v cs] (b : Nat.blt dst N = true) (h : ∀ bb, W (.run k) ((dst, .pointer (some ⟨bb, 0, none⟩)) :: ρ) d (cl bb t cs :: L)) : W (.bx t v dst k) ρ d L
  | makeFunc {fn fs cp ty dst k ρ d L v1 v2} (e : evl ρ fs.toList = some v1) (e' : evl ρ cp.toList = some v2) (b : Nat.blt dst N = true) (h : W (.run k) ((dst, .func fn (List.toArray v1) (List.toArray v2)) :: ρ) d L) : W (.op (.makeFunc fn fs cp) ty (some dst) k) ρ d L
  | makeIface {t x ty dst k ρ d L v} [tn : TN Pr t] (e : evo ρ x = some v) (b : Nat.blt dst N = true) (h : W (.run k) ((dst, .iface t v) :: ρ) d L) : W (.op (.makeInterface t x) ty (some dst) k) ρ d L
  | makeMap {t ty dst k ρ d L} (b : Nat.blt dst N = true) (h : ∀ r, W (.run k) ((dst, .map (some r)) :: ρ) d (pt r (.map #[] 0) :: L)) : W (.op (.makeMap t none) ty (some dst) k) ρ d L
  | slice {t x lo hi mx ty dst k ρ d L e sz by' bb o n c l hh m} [ts : TS Pr t e sz by'] (ex : evo ρ x = some (.slice (some ⟨bb, o, none⟩) n c)) (em : cutAt ρ c mx = some m) (eh : cutAt ρ n hi = some hh) (el : cutAt ρ 0 lo = some l) (b : Nat.blt dst N = true)
      (h : ∀ o', (l.toNat < m.toNat → o' = o + l.toNat * sz) → W (.run k) ((dst, .slice (some ⟨bb, o', none⟩) (hh.toNat - l.toNat) (m.toNat - l.toNat)) :: ρ) d L) (s : 0 ≤ l ∧ l ≤ hh ∧ hh ≤ m ∧ m ≤ c) (hm : mx.isSome = true → hi.isSome = true) :
      W (.op (.slice t x lo hi mx) ty (some dst) k) ρ d L
  | sliceS {t x lo hi ty dst k ρ d L s l hh} [tu : TU Pr t .string] (ex : evo ρ x = some (.string s)) (eh : cutAt ρ s.size hi = some hh) (el : cutAt ρ 0 lo = some l) (b : Nat.blt dst N = true)
      (h : W (.run k) ((dst, .string (s.extract l.toNat hh.toNat)) :: ρ) d L) (sd : 0 ≤ l ∧ l ≤ hh ∧ hh ≤ s.size) : W (.op (.slice t x lo hi none) ty (some dst) k) ρ d L
  | indexAddr {t x i ty dst k ρ d L v kd j} (ex : evo ρ x = some v) (ei : evo ρ i = some (.int kd j)) (h : W (.ia t v kd j dst k) ρ d L) : W (.op (.indexAddr t x i) ty (some dst) k) ρ d L
  | iaN {t dst k ρ d L e sz by' bb o n c kd j m} [ts : TS Pr t e sz by'] [hj : IsNat j m] (b : Nat.blt dst N = true) (h : W (.run k) ((dst, .pointer (some ⟨bb, o + m * sz, none⟩)) :: ρ) d L) (s : m < n) : W (.ia t (.slice (some ⟨bb, o, none⟩) n c) kd j dst k) ρ d L
  | iaZ {t dst k ρ d L e sz by' bb o} {n : Nat} {c kd} {j : Int} [ts : TS Pr t e sz by'] (b : Nat.blt dst N = true) (h : W (.run k) ((dst, .pointer (some ⟨bb, o + j.toNat * sz, none⟩)) :: ρ) d L) (s : 0 ≤ j ∧ j < n) : W (.ia t (.slice (some ⟨bb, o, none⟩) n c) kd j dst k) ρ d L
  | iaA {t dst k ρ d L nn e sz bb o kd j m} [ts : TAr Pr t nn e sz] [hj : IsNat j m] (b : Nat.blt dst N = true) (h : W (.run k) ((dst, .pointer (some ⟨bb, o + m * sz, none⟩)) :: ρ) d L) (s : m < nn) : W (.ia t (.pointer (some ⟨bb, o, none⟩)) kd j dst k) ρ d L
  | iaAZ {t dst k ρ d L nn e sz bb o kd} {j : Int} [ts : TAr Pr t nn e sz] (b : Nat.blt dst N = true) (h : W (.run k) ((dst, .pointer (some ⟨bb, o + j.toNat * sz, none⟩)) :: ρ) d L) (s : 0 ≤ j ∧ j < nn) : W (.ia t (.pointer (some ⟨bb, o, none⟩)) kd j dst k) ρ d L
  | iaS {t v kd j r dst k ρ d L} (hs : ∀ w, St B L w → (Instr.indexAt t v (.int kd j)).run Pr w = .ok r w) (b : Nat.blt dst N = true) (h : W (.run k) ((dst, r) :: ρ) d L) : W (.ia t v kd j dst k) ρ d L
  | indexS {t x i ty dst k ρ d L s kd j} [tu : TU Pr t .string] (ex : evo ρ x = some (.string s)) (ei : evo ρ i = some (.int kd j)) (h : W (.is s kd j dst k) ρ d L) : W (.op (.index t x i) ty (some dst) k) ρ d L
  | isN {dst k ρ d L s kd j m} [hj : IsNat j m] (b : Nat.blt dst N = true) (h : W (.run k) ((dst, .int .u8 ((s.data.toList.getD m 0).toNat : Nat)) :: ρ) d L) (sd : m < s.size) : W (.is s kd j dst k) ρ d L
  | isZ {dst k ρ d L} {s : ByteArray} {kd} {j : Int} (b : Nat.blt dst N = true) (h : W (.run k) ((dst, .int .u8 ((s.data.toList.getD j.toNat 0).toNat : Nat)) :: ρ) d L) (sd : 0 ≤ j ∧ j < s.size) : W (.is s kd j dst k) ρ d L
  | field {x s f ty dst k ρ d L off ft cs v} [tf : TF Pr s f off ft] [t1 : T1 Pr ft] (e : evo ρ x = some (.agg (List.toArray cs))) (ec : cs[off]? = some v) (b : Nat.blt dst N = true) (h : W (.run k) ((dst, v) :: ρ) d L) : W (.op (.field s x f) ty (some dst) k) ρ d L
  | bslice {t n ps ty dst k ρ d L e sz by' z zs pv} [ts : TS Pr t e sz by'] [tz : TZ Pr e z] [lz : LenIs z sz] [az : Zs z n zs] (hn : Nat.ble (n * sz) 16777216 = true) (hz : Nat.blt 0 sz = true) (ep : evp ρ (fun i => some (i * sz, sz)) ps.toList = some pv) (h : W (.bs e zs n pv dst k) ρ d L) : W (.op (.buildSlice t n ps) ty (some dst) k) ρ d L
  | bsF {e z n pv cs dst k ρ d L} [hf : Fill z pv cs] (b : Nat.blt dst N = true) (h : ∀ bb, W (.run k) ((dst, .slice (some ⟨bb, 0, none⟩) n n) :: ρ) d (cl bb e cs :: L)) : W (.bs e z n pv dst k) ρ d L
  -- a region whose order is drawn
  | drawn {id ops k ρ d L} (ms todo : List Nat) (hm : Pr.follows .mixedOrders = true) (hc : drOk ops ms todo = true) (h : W (.run (.dr ops ms todo [] k)) ρ d L) : W (.run (.it (.code (.region id ops true) :: k))) ρ d L
  | dS {ops ms i todo pend k ρ d L oo q} (e : ops[i]? = some oo) (hp : pureOp oo.op = q) (h : W (.dst q oo i ops ms todo pend k) ρ d L) : W (.run (.dr ops ms (i :: todo) pend k)) ρ d L
  | dP {oo i ops ms todo pend k ρ d L t} (g : gd ops (penv pend ρ) oo.guard = some t) (h : W (.dg t oo i ops ms todo pend k) ρ d L) : W (.dst true oo i ops ms todo pend k) ρ d L
  | dE {oo i ops ms todo pend k ρ d L t p1 p2 ρ1} (hc : (todo.all fun x => (ms.getD x 0).testBit i) = true) (hs : StL Pr B N ops (penv pend ρ) L pend) (hp : PSpl (ms.getD i 0) pend p1 p2) (hj : JoinL p2 ρ p1 ρ1) (g : gd ops ρ1 oo.guard = some t) (h : W (.grd t oo (.dr ops ms todo p2 k)) ρ1 d L) : W (.dst false oo i ops ms todo pend k) ρ d L
  | dN {ops ms pend k ρ d L ρ1} (hs : StL Pr B N ops (penv pend ρ) L pend) (hj : JoinL [] ρ pend ρ1) (h : W (.run (.it k)) ρ1 d L) : W (.run (.dr ops ms [] pend k)) ρ d L
  | dgF {o ty s ps af gu i ops ms todo pend k ρ d L} (h : W (.run (.dr ops ms todo ((i, s, undef) :: pend) k)) ρ d L) : W (.dg false { op := o, type := ty, dst := some s, pos := ps, after := af, guard := gu } i ops ms todo pend k) ρ d L
  | dgB {o t x y yt v u ty s ps af gu i ops ms todo pend k ρ d L} (e : evo (penv pend ρ) x = some v) (e' : evo (penv pend ρ) y = some u) (h : W (.db o v u s t i ops ms todo pend k) ρ d L) : W (.dg true { op := .binOp o t x y yt, type := ty, dst := some s, pos := ps, after := af, guard := gu } i ops ms todo pend k) ρ d L
  | dgP {o ty s ps af gu i ops ms todo pend k ρ d L v} (p : PV Pr B (penv pend ρ) L (.op o ty) v) (h : W (.run (.dr ops ms todo ((i, s, v) :: pend) k)) ρ d L) : W (.dg true { op := o, type := ty, dst := some s, pos := ps, after := af, guard := gu } i ops ms todo pend k) ρ d L
  | dbC {o t v u p s i ops ms todo pend k ρ d L} [c : CmpR o v u p] (h : p → W (.run (.dr ops ms todo ((i, s, .bool true) :: pend) k)) ρ d L) (h' : ¬ p → W (.run (.dr ops ms todo ((i, s, .bool false) :: pend) k)) ρ d L) : W (.db o v u s t i ops ms todo pend k) ρ d L
  | dbP {o t v u r s i ops ms todo pend k ρ d L} (p : PV Pr B (penv pend ρ) L (.bin o t v u) r) (h : W (.run (.dr ops ms todo ((i, s, r) :: pend) k)) ρ d L) : W (.db o v u s t i ops ms todo pend k) ρ d L
  -- where the engine stops
  | nil {ρ d L} (h : Q .normal ρ d L) : W (.run (.it [])) ρ d L
  | ret {k ρ d L} (h : Q .ret ρ d L) : W (.run (.it (.code .ret :: k))) ρ d L
  | leave {id k ρ d L} (e : exitTo id k = none) (h : Q (.exit id) ρ d L) : W (.run (.it (.code (.exit id) :: k))) ρ d L
  | loop {c k ρ d L} (u : Unrl) (h : W (.run (.it (.code c :: .inLoop c :: k))) ρ d L) : W (.run (.it (.code (.loop c) :: k))) ρ d L
  | inLoop {c k ρ d L} (u : Unrl) (h : W (.run (.it (.code c :: .inLoop c :: k))) ρ d L) : W (.run (.it (.inLoop c :: k))) ρ d L
  | call {fo args ats ty dst k ρ d L fv vs S Sp} (ef : evo ρ fo = some fv) (ea : evl ρ args.toList = some vs) (b : dok N dst = true) (c : CallR Pr B fv vs L S Sp) (h : ∀ v L', S v L' → W (.run k) (pd dst v ρ) d L') (hp : ∀ ch L', Sp ch L' → Q (.panic ch) ρ d L') :
      W (.op (.call { callee := .value fo, args, argTypes := ats }) ty dst k) ρ d L
  | defer {fo args ats ty dst k ρ d L fn cap vs} (ef : evo ρ fo = some (.func fn #[] cap)) (ea : evl ρ args.toList = some vs) (b : dok N dst = true) (hr : ro = none) (h : W (.run k) (pd dst undef ρ) ({ target := .fn fn cap, args := (List.toArray vs) } :: d) L) :
      W (.op (.defer { callee := .value fo, args, argTypes := ats }) ty dst k) ρ d L
  | panic {x ty dst k ρ d L t v} (e : evo ρ x = some (.iface t v)) (h : Q (.panic [{ v := .iface t v, recovered := false }]) ρ d L) : W (.op (.panic x) ty dst k) ρ d L
  | opS {o ty dst k ρ d L} (S : Value → List HP → Prop) (b : dok N dst = true) (hro : ∀ c, o ≠ .defer c)
      (hs : ∀ (ev : Operand → Value) (w : World), (∀ x v, evo ρ x = some v → ev x = v) → St B L w → ∃ v w' L', ((ex ev o ty).run Pr w = .ok (.value v) w' ∨ ((ex ev o ty).run Pr w = .ok .skip w' ∧ v = undef)) ∧ St B L' w' ∧ S v L')
      (h : ∀ v L', S v L' → W (.run k) (pd dst v ρ) d L') : W (.op o ty dst k) ρ d L
  | ghost {c ρ d L} {α : Type} (L' : α → List HP) (e : ∀ w, St B L w → ∃ x, St B (L' x) w) (h : ∀ x, W c ρ d (L' x)) : W c ρ d L
  | env {k ρ ρ' d L} (e : ∀ t v, lk ρ' t = some v → lk ρ t = some v) (h : W (.run (.it k)) ρ' d L) : W (.run (.it k)) ρ d L
  | sem {k ρ d L} (h : SemR Pr B N ro Q k ρ d L) : W (.run (.it k)) ρ d L
end

variable {B : World} {N : Nat} {ro : Option Nat} {Q : Post}

/-- what a state of the walk says of the machine -/
def Means (Pr : Program) (B : World) (N : Nat) (ro : Option Nat) (Q : Post) : Cf → Env → List Deferred → List HP → Prop
  | .run k, ρ, d, L => SemK Pr B N ro Q k ρ d L
  | .op o ty dst k, ρ, d, L => SemO Pr B N ro Q o ty dst k ρ d L
  | .brn t x y k, ρ, d, L => SemR Pr B N ro Q (.code (if t then x else y) :: k) ρ d L
  | .bin o t v u dst k, ρ, d, L => ∀ (x y : Operand) (yt ty : TypeId), evo ρ x = some v → evo ρ y = some u → SemO Pr B N ro Q (.binOp o t x y yt) ty (some dst) k ρ d L
  | .ld t v dst k, ρ, d, L => ∀ (x : Operand) (ty : TypeId), evo ρ x = some v → SemO Pr B N ro Q (.load t x) ty (some dst) k ρ d L
  | .cv kd' kd n dst k, ρ, d, L => ∀ (s t : TypeId) (x : Operand) (ty : TypeId), TU Pr t (.int kd') → TUs Pr s → evo ρ x = some (.int kd n) → SemO Pr B N ro Q (.convert s t x) ty (some dst) k ρ d L
  | .un o v dst k, ρ, d, L => ∀ (x : Operand) (t ty : TypeId), evo ρ x = some v → SemO Pr B N ro Q (.unOp o t x) ty (some dst) k ρ d L
  | .st t u v k, ρ, d, L => ∀ (x y : Operand) (ty : TypeId), evo ρ x = some u → evo ρ y = some v → SemO Pr B N ro Q (.store t x y) ty none k ρ d L
  | .bx t v dst k, ρ, d, L => ∀ (x : Operand) (ty : TypeId), evo ρ x = some v → SemO Pr B N ro Q (.box t x) ty (some dst) k ρ d L
  | .bd t z pv dst k, ρ, d, L => ∀ (fl : List (Nat × Nat)) (ps : Array (Nat × Operand)) (ty : TypeId), TB Pr t z fl → evp ρ (fun i => fl[i]?) ps.toList = some pv → SemO Pr B N ro Q (.build t ps) ty (some dst) k ρ d L
  | .bs e z n pv dst k, ρ, d, L => ∀ (t sz by' : Nat) (z0 : List Value) (ps : Array (Nat × Operand)) (ty : TypeId), TS Pr t e sz by' → TZ Pr e z0 → LenIs z0 sz → z = zeros z0 n → n * sz ≤ 16777216 → 0 < sz → evp ρ (fun i => some (i * sz, sz)) ps.toList = some pv →
      SemO Pr B N ro Q (.buildSlice t n ps) ty (some dst) k ρ d L
  | .lm v dst k, ρ, d, L => ∀ (x : Operand) (t ty kt et : TypeId), TU Pr t (.map kt et) → evo ρ x = some v → SemO Pr B N ro Q (.call { callee := .builtin .len, args := #[x], argTypes := #[t] }) ty (some dst) k ρ d L
  | .ia t v kd j dst k, ρ, d, L => ∀ (x i : Operand) (ty : TypeId), evo ρ x = some v → evo ρ i = some (.int kd j) → SemO Pr B N ro Q (.indexAddr t x i) ty (some dst) k ρ d L
  | .is s kd j dst k, ρ, d, L => ∀ (x i : Operand) (t ty : TypeId), TU Pr t .string → evo ρ x = some (.string s) → evo ρ i = some (.int kd j) → SemO Pr B N ro Q (.index t x i) ty (some dst) k ρ d L
  | .grd t oo k, ρ, d, L => SemG Pr B N ro Q t oo k ρ d L
  | .dst q oo i ops ms todo pend k, ρ, d, L => ops[i]? = some oo → pureOp oo.op = q → SemK Pr B N ro Q (.dr ops ms (i :: todo) pend k) ρ d L
  | .dg _ oo i ops ms todo pend k, ρ, d, L => ops[i]? = some oo → pureOp oo.op = true → SemK Pr B N ro Q (.dr ops ms (i :: todo) pend k) ρ d L
  | .db _ _ _ s _ i ops ms todo pend k, ρ, d, L => ∀ oo, ops[i]? = some oo → pureOp oo.op = true → oo.dst = some s → SemK Pr B N ro Q (.dr ops ms (i :: todo) pend k) ρ d L

theorem SemO.ghost {o : Op} {ty : TypeId} {dst : Option Tmp} {k : Kt} {ρ : Env} {d : List Deferred} {L : List HP} {α : Type} {L' : α → List HP} (h : ∀ x, SemO Pr B N ro Q o ty dst k ρ d (L' x)) (e : ∀ w, St B L w → ∃ x, St B (L' x) w) : SemO Pr B N ro Q o ty dst k ρ d L :=
  fun ops i r k' oo w a hk ho h1 h2 h3 hst => let ⟨x, hx⟩ := e w hst; h x ops i r k' oo w a hk ho h1 h2 h3 hx
theorem Means.ghost {c : Cf} {ρ : Env} {d : List Deferred} {L : List HP} {α : Type} {L' : α → List HP} (h : ∀ x, Means Pr B N ro Q c ρ d (L' x)) (e : ∀ w, St B L w → ∃ x, St B (L' x) w) : Means Pr B N ro Q c ρ d L := by
  cases c with
  | run k => exact SemK.ghost h e
  | op o ty dst k => exact SemO.ghost h e
  | brn t x y k => exact SemR.ghost h e
  | ld t v dst k => intro x ty e1; exact SemO.ghost (fun z => h z x ty e1) e
  | cv kd' kd n dst k => intro s t x ty tu ts e1; exact SemO.ghost (fun z => h z s t x ty tu ts e1) e
  | un o v dst k => intro x t ty e1; exact SemO.ghost (fun z => h z x t ty e1) e
  | st t u v k => intro x y ty e1 e2; exact SemO.ghost (fun z => h z x y ty e1 e2) e
  | bx t v dst k => intro x ty e1; exact SemO.ghost (fun z => h z x ty e1) e
  | bd t z pv dst k => intro fl ps ty tb e1; exact SemO.ghost (fun z => h z fl ps ty tb e1) e
  | bs e' z n pv dst k => intro t sz by' z0 ps ty h1 h2 h3 h4 h5 h6 h7; exact SemO.ghost (fun z => h z t sz by' z0 ps ty h1 h2 h3 h4 h5 h6 h7) e
  | lm v dst k => intro x t ty kt et tu e1; exact SemO.ghost (fun z => h z x t ty kt et tu e1) e
  | ia t v kd j dst k => intro x y ty e1 e2; exact SemO.ghost (fun z => h z x y ty e1 e2) e
  | is s kd j dst k => intro x y t ty tu e1 e2; exact SemO.ghost (fun z => h z x y t ty tu e1 e2) e
  | bin o t v u dst k => intro x y yt ty e1 e2; exact SemO.ghost (fun z => h z x y yt ty e1 e2) e
  | grd t oo k => exact fun ops i r k' w a hk ho hst => let ⟨x, hx⟩ := e w hst; h x ops i r k' w a hk ho hx
  | dst q oo i ops ms todo pend k => intro e1 e2; exact SemK.ghost (fun z => h z e1 e2) e
  | dg t oo i ops ms todo pend k => intro e1 e2; exact SemK.ghost (fun z => h z e1 e2) e
  | db o v u s t i ops ms todo pend k => intro oo e1 e2 e3; exact SemK.ghost (fun z => h z oo e1 e2 e3) e
theorem fill_ok {place : Nat → Option (Nat × Nat)} {ρ : Env} {ev : Operand → Value} (he : ∀ x v, evo ρ x = some v → ev x = v) : ∀ {ps : List (Nat × Operand)} {pv z z'}, evp ρ place ps = some pv → FillR z pv z' →
    Instr.fill place z.toArray (ps.map fun (i, x) => (i, ev x)) = some z'.toArray
  | [], pv, z, z', e, h => by
    simp only [evp, Option.some.injEq] at e; subst e; cases h; rfl
  | (i, x) :: l, pv, z, z', e, h => by
    simp only [evp] at e
    split at e
    · rename_i o v r h1 h2 h3
      simp only [Option.some.injEq] at e; subst e
      cases h with
      | cons hv hn hs hr =>
        rename_i oo nn y vs z1
        have ih := fill_ok he (z := z1) h3 hr
        have hset : ∀ (vs z z1 : List Value) (o j : Nat), SetsR z (o + j) vs z1 → (vs.zipIdx j).foldl (fun cs (c, j) => cs.setIfInBounds (o + j) c) z.toArray = z1.toArray := by
          intro vs
          induction vs with
          | nil => intro z z1 o j h; cases h; rfl
          | cons v vs ihv =>
            intro z z1 o j h
            cases h with
            | cons h hl _ r =>
              subst h
              simp only [List.zipIdx_cons, List.foldl_cons]
              have := ihv _ _ o (j + 1) (by rw [← Nat.add_assoc]; exact r)
              simpa using this
        have hlen : ∀ (vs z z1 : List Value) (o : Nat), SetsR z o vs z1 → ¬ (o + vs.length > z.length) ∨ vs = [] := by
          intro vs
          induction vs with
          | nil => intros; exact .inr rfl
          | cons v vs ihv =>
            intro z z1 o h
            cases h with
            | cons h hl _ r =>
              subst h
              left
              rcases ihv _ _ _ r with h | h
              · simp at h ⊢; omega
              · subst h; simp; omega
        simp only [List.map_cons, Instr.fill, h1, he _ _ h2, hv]
        have hfold : ((y :: vs).toArray.zipIdx.foldl (fun cs (c, j) => cs.setIfInBounds (oo + j) c) z.toArray) = z1.toArray := by
          have := hset (y :: vs) z z1 oo 0 (by simpa using hs)
          rw [← this]
          rw [← Array.foldl_toList, Array.toList_zipIdx]
        rcases hlen _ _ _ _ hs with hb | hb
        · rw [if_neg (by simp at hn hb ⊢; omega), hfold]; exact ih
        · cases hb
    · cases e


theorem dok_some {t : Nat} (b : Nat.blt t N = true) : dok N (some t) = true := b

/-- an operation that reads nothing -/
theorem semO_pure {o : Op} {ty : TypeId} {t : Tmp} {k : Kt} {ρ : Env} {d : List Deferred} {L : List HP} {v : Value} (b : Nat.blt t N = true) (hro : ∀ c, o ≠ .defer c)
    (h : ∀ (ev : Operand → Value) (w : World), (∀ x v, evo ρ x = some v → ev x = v) → St B L w → (ex ev o ty).run Pr w = .ok (.value v) w) (hk : SemK Pr B N ro Q k ((t, v) :: ρ) d L) : SemO Pr B N ro Q o ty (some t) k ρ d L :=
  semO_val (dok_some b) hro fun ev w he hw => ⟨v, w, L, .inl (h ev w he hw), hw, hk⟩

theorem eqN_run {v u : Value} {q : Bool} {t : Nat} [h : EqN Pr t v u q] (x y : Operand) (w : World) :
    (do eqGuard .eql t x y v u; binOp .eql t v u : Sem Value).run Pr w = .ok (.bool q) w ∧ (do eqGuard .neq t x y v u; binOp .neq t v u : Sem Value).run Pr w = .ok (.bool !q) w := by
  obtain ⟨h1, h2⟩ := h.h
  have e1 : (Op.equal t v u).run Pr w = .ok q w := h1 9999 w
  rcases h2 with ⟨a, rfl⟩ | ⟨r, rfl⟩ | ⟨a, n, c, rfl⟩ | rfl | ⟨f, a, c, rfl⟩ <;> constructor <;> simp only [eqGuard, Sem.run_bind] <;> simp [binOp, e1]

theorem semO_split {o : Op} {ty : TypeId} {t : Tmp} {k : Kt} {ρ : Env} {d : List Deferred} {L : List HP} {p : Prop} [Decidable p] {x y : Value} (b : Nat.blt t N = true) (hro : ∀ c, o ≠ .defer c)
    (h : ∀ (ev : Operand → Value) (w : World), (∀ x v, evo ρ x = some v → ev x = v) → St B L w → (ex ev o ty).run Pr w = .ok (.value (if p then x else y)) w)
    (hk : p → SemK Pr B N ro Q k ((t, x) :: ρ) d L) (hk' : ¬ p → SemK Pr B N ro Q k ((t, y) :: ρ) d L) : SemO Pr B N ro Q o ty (some t) k ρ d L := by
  by_cases hp : p
  · exact semO_pure b hro (fun ev w he hw => by rw [h ev w he hw, if_pos hp]) (hk hp)
  · exact semO_pure b hro (fun ev w he hw => by rw [h ev w he hw, if_neg hp]) (hk' hp)
theorem ite_bool' (p : Prop) [Decidable p] : (if p then Value.bool true else Value.bool false) = .bool (decide p) := by by_cases h : p <;> simp [h]
theorem ite_bool'' (p : Prop) [Decidable p] : (if p then Value.bool false else Value.bool true) = .bool (!decide p) := by by_cases h : p <;> simp [h]

theorem TSl.el {t : Nat} [x : TSl Pr t] : ∃ el, Pr.underlying t = some (.slice el) := by
  have := x.h
  cases hh : Pr.underlying t with
  | none => rw [hh] at this; cases this
  | some dd => rw [hh] at this; cases dd <;> simp [slD] at this; exact ⟨_, rfl⟩

theorem CalV.mono {fv : Value} {vs : List Value} {w : World} {R R' : Ending → World → Prop} (h : CalV Pr fv vs w R) (hr : ∀ e w', R e w' → R' e w') : CalV Pr fv vs w R' := by
  obtain ⟨d, h1, h2⟩ := h
  refine ⟨d, h1, ?_⟩
  rcases h2 with ⟨f, as, h3, h4⟩ | ⟨l, f, tmps, asg, body, h3, h4⟩
  · exact .inl ⟨f, as, h3, h4.mono hr⟩
  · exact .inr ⟨l, f, tmps, asg, body, h3, h4.mono hr⟩

theorem run_sliceBound {kd : IntKind} {i : Int} {y : Nat} (code : BoundsCode) (w : World) (h : 0 ≤ i ∧ i ≤ y) : (Instr.sliceBound (.int kd i) y code).run Pr w = .ok i.toNat w := by
  simp [Instr.sliceBound, asIntOf, h.1, h.2]
theorem cutAt_ev {ρ : Env} {ev : Operand → Value} (he : ∀ x v, evo ρ x = some v → ev x = v) {d : Int} {x : Option Operand} {i : Int} (h : cutAt ρ d x = some i) : (x = none ∧ i = d) ∨ ∃ y kd, x = some y ∧ ev y = .int kd i := by
  cases x with
  | none => simp [cutAt] at h; exact .inl ⟨rfl, h.symm⟩
  | some y =>
    simp only [cutAt] at h
    split at h
    · rename_i kd n hn
      simp at h; subst h
      exact .inr ⟨y, kd, rfl, he _ _ hn⟩
    · cases h
theorem run_sliceBounds {ρ : Env} {ev : Operand → Value} (he : ∀ x v, evo ρ x = some v → ev x = v) {isS : Bool} {n c : Nat} {lo hi mx : Option Operand} {l h m : Int} (em : cutAt ρ c mx = some m) (eh : cutAt ρ n hi = some h) (el : cutAt ρ 0 lo = some l)
    (s : 0 ≤ l ∧ l ≤ h ∧ h ≤ m ∧ m ≤ c) (hm : mx.isSome = true → hi.isSome = true) (w : World) : (Instr.sliceBounds isS n c (lo.map ev) (hi.map ev) (mx.map ev)).run Pr w = .ok (l.toNat, h.toNat, m.toNat) w := by
  obtain ⟨m', rfl⟩ := Int.eq_ofNat_of_zero_le (show 0 ≤ m by omega)
  obtain ⟨h', rfl⟩ := Int.eq_ofNat_of_zero_le (show 0 ≤ h by omega)
  obtain ⟨l', rfl⟩ := Int.eq_ofNat_of_zero_le (show 0 ≤ l by omega)
  have b1 : (m' : Int) ≤ c := s.2.2.2
  have b2 : (h' : Int) ≤ m' := s.2.2.1
  have b3 : (l' : Int) ≤ h' := s.2.1
  rcases cutAt_ev he em with ⟨rfl, em⟩ | ⟨y, k1, rfl, em⟩ <;> rcases cutAt_ev he eh with ⟨rfl, eh⟩ | ⟨y2, k2, rfl, eh⟩ <;> rcases cutAt_ev he el with ⟨rfl, el⟩ | ⟨y3, k3, rfl, el⟩
  all_goals first | (simp at hm; done) | skip
  all_goals simp only [Instr.sliceBounds, Option.map_none, Option.map_some, Sem.run_bind, Sem.run_pure, Result.andThen_ok, *]
  all_goals repeat (first | rw [run_sliceBound _ _ (by omega)] | simp only [Result.andThen_ok, Int.toNat_natCast, Sem.run_bind, Sem.run_pure])
  all_goals (first | rfl | (have : l' = 0 := by omega
                            subst this) | skip)
  all_goals (first | rfl | (have : m' = c := by omega
                            subst this) | skip)
  all_goals (first | rfl | (have : h' = n := by omega
                            subst this) | skip)
  all_goals rfl

theorem run_places {fl : List (Nat × Nat)} (w : World) : ∀ {fs : List Field}, (fs.mapM fun d => (Pr.info? d.type).map fun i => (d.offset, i.size)) = some fl →
    (fs.mapM fun f => (do pure (f.offset, ← sizeOf f.type) : Sem (Nat × Nat))).run Pr w = .ok fl w := by
  intro fs
  induction fs generalizing fl with
  | nil => intro h; simp at h; subst h; simp
  | cons d fs ih =>
    intro h
    simp only [List.mapM_cons, Option.bind_eq_bind, Option.bind_eq_some_iff, Option.map_eq_some_iff] at h
    obtain ⟨x, ⟨i, hi, rfl⟩, y, hy, h⟩ := h
    simp at h; subst h
    simp only [List.mapM_cons, Sem.run_bind, run_sizeOf' (Pr := Pr) (t := d.type) (n := i.size) (by simp [hi]), Result.andThen_ok, Sem.run_pure, ih hy]
theorem structOf_ok {t : Nat} {fl : List (Nat × Nat)} (h : structOf Pr t = some fl) : ∃ fs : Array Field, Pr.underlying t = some (.struct fs) ∧ ∀ w, (fs.mapM fun f => (do pure (f.offset, ← sizeOf f.type) : Sem (Nat × Nat))).run Pr w = .ok fl.toArray w := by
  unfold structOf at h
  split at h
  · rename_i fs hu
    refine ⟨fs, hu, fun w => ?_⟩
    rw [Array.mapM_eq_mapM_toList, Sem.run_map, run_places w h]
    rfl
  · cases h

theorem tsz {e sz by' : Nat} (h : (Pr.info? e).map (fun i => (i.size, i.bytes)) = some (sz, by')) : (Pr.info? e).map (·.size) = some sz := by
  cases hh : Pr.info? e with
  | none => rw [hh] at h; cases h
  | some ii => rw [hh] at h; simp at h; simp [h.1]

theorem run_slice {ρ : Env} {ev : Operand → Value} (he : ∀ x v, evo ρ x = some v → ev x = v) {t e sz by' bb o n c : Nat} {x : Operand} {lo hi mx : Option Operand} {ty : TypeId} {l h m : Int} [ts : TS Pr t e sz by'] (hx : evo ρ x = some (.slice (some ⟨bb, o, none⟩) n c))
    (em : cutAt ρ c mx = some m) (eh : cutAt ρ n hi = some h) (el : cutAt ρ 0 lo = some l) (s : 0 ≤ l ∧ l ≤ h ∧ h ≤ m ∧ m ≤ c) (hm : mx.isSome = true → hi.isSome = true) (w : World) :
    (ex ev (.slice t x lo hi mx) ty).run Pr w = .ok (.value (.slice (some ⟨bb, if m.toNat = l.toNat then o else o + l.toNat * sz, none⟩) (h.toNat - l.toNat) (m.toNat - l.toNat))) w := by
  obtain ⟨h1, h2⟩ := ts.h
  simp only [ex, execOp, he _ _ hx, Instr.sliceAt, Sem.run_bind, run_underlying h1, Result.andThen_ok, Instr.slice, run_sliceBounds he em eh el s hm w, run_sizeOf' (tsz h2), Sem.run_pure, Option.map_some, Addr.add_none]
  split <;> rfl
theorem run_indexS {ev : Operand → Value} {t : Nat} {x i : Operand} {ty : TypeId} {s : ByteArray} {kd : IntKind} {j : Int} (hu : Pr.underlying t = some .string) (hx : ev x = .string s) (hi : ev i = .int kd j) (sd : 0 ≤ j ∧ j < s.size) (w : World) :
    (ex ev (.index t x i) ty).run Pr w = .ok (.value (.int .u8 ((s.data.toList.getD j.toNat 0).toNat : Nat))) w := by
  have hlt : j.toNat < s.size := by omega
  have hb : s[j.toNat]? = some (s.data.toList.getD j.toNat 0) := by
    rw [getElem?_pos s j.toNat hlt]
    congr 1
    rw [List.getD_eq_getElem?_getD, List.getElem?_eq_getElem (by simpa using hlt)]
    rfl
  simp only [ex, execOp, hx, hi, Instr.index, Sem.run_bind, asIntOf, Sem.run_pure, Result.andThen_ok, run_underlying hu, sd.1, if_true, hb]

theorem run_field1 {s f off ft : Nat} {cs : List Value} {v : Value} [x : TF Pr s f off ft] [t1 : T1 Pr ft] (ec : cs[off]? = some v) (w : World) : (Instr.field s (.agg (List.toArray cs)) f).run Pr w = .ok v w := by
  obtain ⟨h1, h2⟩ := x.h
  unfold fieldOf at h1
  split at h1
  · rename_i fs hu
    cases hf : fs[f]? with
    | none => rw [hf] at h1; cases h1
    | some d =>
      rw [hf] at h1; simp at h1
      obtain ⟨h3, h4⟩ := h1
      subst h4; subst h3
      simp [Instr.field, run_underlying hu, hf, asAgg, part, run_isAgg' t1.h.1, ec]
  · cases h1
theorem zeros_get (z : List Value) (n : Nat) : ((Array.range (n * z.length)).map fun x => z.toArray[x % z.toArray.size]!) = (zeros z n).toArray := by
  apply Array.toList_inj.1
  simp only [Array.toList_map, Array.toList_range, List.size_toArray]
  induction n with
  | zero => simp [zeros]
  | succ n ih =>
    by_cases hz : z = []
    · subst hz
      have : ∀ n, zeros [] n = [] := by intro n; induction n with | zero => rfl | succ n ih => simp [zeros, ih]
      simp [this]
    · have hl : 0 < z.length := List.length_pos_iff.2 hz
      rw [show (n + 1) * z.length = z.length + n * z.length by rw [Nat.add_mul]; omega, List.range_add, List.map_append, List.map_map, zeros]
      congr 1
      · apply List.ext_getElem
        · simp
        · intro i h1 h2
          simp at h1
          simp [Nat.mod_eq_of_lt h1, h1]
      · rw [← ih]
        apply List.map_congr_left
        intro x _
        simp
theorem run_bslice {ρ : Env} {ev : Operand → Value} (he : ∀ x v, evo ρ x = some v → ev x = v) {t e sz by' n : Nat} {z0 z cs : List Value} {ps : Array (Nat × Operand)} {pv : List ((Nat × Nat) × Value)} {ty : TypeId} (ts : TS Pr t e sz by') (tz : TZ Pr e z0) (lz : LenIs z0 sz) (hz : z = zeros z0 n)
    (hn : n * sz ≤ 16777216) (hs0 : 0 < sz) (ep : evp ρ (fun i => some (i * sz, sz)) ps.toList = some pv) (hf : FillR z pv cs) (w : World) :
    (ex ev (.buildSlice t n ps) ty).run Pr w = .ok (.value (.slice (some ⟨w.heap.size, 0, none⟩) n n)) (w.alloc (.cells (List.toArray cs) e (0, 0))) := by
  obtain ⟨h1, h2⟩ := ts.h
  have hsz := run_sizeOf' (Pr := Pr) (t := e) (n := sz) (by
    cases hh : Pr.info? e with
    | none => rw [hh] at h2; cases h2
    | some ii => rw [hh] at h2; simp at h2; simp [h2.1]) w
  obtain ⟨zv, hzv, hzc⟩ := run_zeroValue' tz.h w
  have hfill := fill_ok (place := fun i => some (i * sz, sz)) he ep hf
  have hzero : ∀ x : Array Value, (n * sz = 0 → x = #[]) → (n * sz ≠ 0 → x = z0.toArray) → (Array.range (n * sz)).map (fun j => x[j % x.size]!) = z.toArray := by
    intro x h3 h4
    by_cases h : n * sz = 0
    · rw [h]
      have : n = 0 := by
        rcases Nat.mul_eq_zero.1 h with h | h
        · exact h
        · omega
      subst this; subst hz; simp [zeros]
    · rw [h4 h, ← lz.h, hz]; exact zeros_get z0 n
  simp only [ex, execOp, Instr.buildSlice, Sem.run_bind, run_underlying h1, Result.andThen_ok, hsz]
  rw [if_neg (by omega)]
  by_cases h : n * sz = 0
  · simp only [Sem.run_pure, h, if_true, Result.andThen_ok]
    have := hzero #[] (fun _ => rfl) (fun hh => absurd h hh)
    rw [h] at this
    simp only [Array.toList_map, this, hfill, newRow, Sem.run_bind, run_newObj, Result.andThen_ok, Sem.run_pure, World.alloc_eq]
  · simp only [Sem.run_pure, h, if_false, Sem.run_bind, hzv, Result.andThen_ok, hzc]
    have := hzero z0.toArray (fun hh => absurd hh h) (fun _ => rfl)
    simp only [Array.toList_map, this, hfill, newRow, Sem.run_bind, run_newObj, Result.andThen_ok, Sem.run_pure, World.alloc_eq]

def PMeans (Pr : Program) (B : World) (ρ : Env) (L : List HP) : PC → Value → Prop
  | .op o ty, r => PVs Pr B ρ L o ty r
  | .ld t a, r => ∀ (x : Operand) (ty : TypeId), evo ρ x = some a → PVs Pr B ρ L (.load t x) ty r
  | .bin o t v u, r => ∀ (x y : Operand) (yt ty : TypeId), evo ρ x = some v → evo ρ y = some u → PVs Pr B ρ L (.binOp o t x y yt) ty r
  | .ia t v kd j, r => ∀ (x i : Operand) (ty : TypeId), evo ρ x = some v → evo ρ i = some (.int kd j) → PVs Pr B ρ L (.indexAddr t x i) ty r
  | .is s kd j, r => ∀ (x i : Operand) (t ty : TypeId), TU Pr t .string → evo ρ x = some (.string s) → evo ρ i = some (.int kd j) → PVs Pr B ρ L (.index t x i) ty r
  | .bd t z pv, r => ∀ (fl : List (Nat × Nat)) (ps : Array (Nat × Operand)) (ty : TypeId), TB Pr t z fl → evp ρ (fun i => fl[i]?) ps.toList = some pv → PVs Pr B ρ L (.build t ps) ty r
theorem pvs {ρ : Env} {L : List HP} {o : Op} {ty : TypeId} {v : Value} (h : ∀ (ev : Operand → Value) (w : World), (∀ x u, evo ρ x = some u → ev x = u) → St B L w → (ex ev o ty).run Pr w = .ok (.value v) w) : PVs Pr B ρ L o ty v := fun ev w he hw => ⟨w, h ev w he hw, hw⟩
theorem run_build {ρ : Env} {ev : Operand → Value} (he : ∀ x v, evo ρ x = some v → ev x = v) {t : Nat} {z cs : List Value} {fl : List (Nat × Nat)} {ps : Array (Nat × Operand)} {pv : List ((Nat × Nat) × Value)} {ty : TypeId} (tb : TB Pr t z fl) (e : evp ρ (fun i => fl[i]?) ps.toList = some pv) (hf : FillR z pv cs) (w : World) :
    (ex ev (.build t ps) ty).run Pr w = .ok (.value (.agg (List.toArray cs))) w := by
  obtain ⟨h1, h2⟩ := tb.h
  obtain ⟨zv, hz, hzc⟩ := run_zeroValue' h2 w
  obtain ⟨fs, hu, hp⟩ := structOf_ok h1
  have hfill := fill_ok he e hf
  simp only [ex, execOp, Instr.build, Sem.run_bind, hz, Result.andThen_ok, run_underlying hu, hp, hzc]
  simp only [List.getElem?_toArray, Array.toList_map, hfill]
  rfl
theorem PV.sound {ρ : Env} {L : List HP} {c : PC} {r : Value} (h : PV Pr B ρ L c r) : PMeans Pr B ρ L c r := by
  induction h with
  | mv e => exact pvs fun ev w he hw => by simp [ex, execOp, he _ _ e]
  | @pick _ _ _ _ q _ e e' =>
    exact pvs fun ev w he hw => by
      have := he _ _ e'
      cases q <;> simp only [cond_true, cond_false] at this <;> simp [ex, execOp, he _ _ e, asBool, this]
  | fieldAddr e => exact pvs fun ev w he hw => by simp [ex, execOp, he _ _ e, run_fieldAt']
  | load e _ ih => exact ih _ _ e
  | @ld1 _ _ _ _ _ _ _ _ hb ec => intro x ty e; exact pvs fun ev w he hw => by simp [ex, execOp, he _ _ e, Instr.loadAt, Instr.sureAddr, run_loadVar1 (hb.h w hw) ec]
  | @ldA _ _ _ _ _ _ _ _ _ hb ec => intro x ty e; exact pvs fun ev w he hw => by simp [ex, execOp, he _ _ e, Instr.loadAt, Instr.sureAddr, run_loadVarA (hb.h w hw) ec]
  | ldS h => intro x ty e ev w he hw; obtain ⟨w', h1, h2⟩ := h w hw; exact ⟨w', by simp [ex, execOp, he _ _ e, h1], h2⟩
  | nilCheck e => exact pvs fun ev w he hw => by simp [ex, execOp, he _ _ e]
  | binop e e' _ ih => exact ih _ _ _ _ e e'
  | @cT _ _ _ _ _ c hp =>
    intro x y yt ty e e'
    obtain ⟨dp, h⟩ := c.h
    exact pvs fun ev w he hw => by simp only [ex, execOp, he _ _ e, he _ _ e']; rw [Sem.run_bind, h]; simp [hp]
  | @cF _ _ _ _ _ c hp =>
    intro x y yt ty e e'
    obtain ⟨dp, h⟩ := c.h
    exact pvs fun ev w he hw => by simp only [ex, execOp, he _ _ e, he _ _ e']; rw [Sem.run_bind, h]; simp [hp]
  | eqlN => intro x y yt ty e e'; exact pvs fun ev w he hw => by simp only [ex, execOp, he _ _ e, he _ _ e']; rw [Sem.run_bind, (eqN_run (Pr := Pr) _ _ w).1]; rfl
  | neqN => intro x y yt ty e e'; exact pvs fun ev w he hw => by simp only [ex, execOp, he _ _ e, he _ _ e']; rw [Sem.run_bind, (eqN_run (Pr := Pr) _ _ w).2]; rfl
  | @binR _ _ _ _ _ _ c hs => intro x y yt ty e e'; exact pvs fun ev w he hw => by simp only [ex, execOp, he _ _ e, he _ _ e']; rw [Sem.run_bind, c.h hs]; rfl
  | bnot e => exact pvs fun ev w he hw => by simp [ex, execOp, he _ _ e, Op.unary]
  | @cvt _ _ _ _ _ _ _ tu ts e sd =>
    obtain ⟨ds, hds⟩ := Option.isSome_iff_exists.1 ts.h
    exact pvs fun ev w he hw => by simp [ex, execOp, he _ _ e, convert, run_underlying tu.h, run_underlying hds, Conv.intToInt, wrap_kin sd]
  | extract e e' => exact pvs fun ev w he hw => by simp [ex, execOp, he _ _ e, Instr.extract, e']
  | @lenL _ _ _ _ _ _ tu e =>
    obtain ⟨el, hu⟩ := tu.el
    exact pvs fun ev w he hw => by simp [ex, execOp, he _ _ e, resolve, invoke, builtin, Builtin.len_, run_underlying hu, goInt]
  | @lenS _ _ _ _ tu e => exact pvs fun ev w he hw => by simp [ex, execOp, he _ _ e, resolve, invoke, builtin, Builtin.len_, run_underlying tu.h, goInt]
  | indexAddr ex' ei _ ih => exact ih _ _ _ ex' ei
  | @iaN _ _ _ _ _ _ _ _ _ _ _ ts hj s =>
    intro x i ty ex' ei
    exact pvs fun ev w he hw => by
      obtain ⟨h1, h2⟩ := ts.h
      have hsz := run_sizeOf' (Pr := Pr) (t := _) (n := _) (tsz h2) w
      simp [ex, execOp, he _ _ ex', he _ _ ei, Instr.indexAt, run_underlying h1, asIntOf, hj.h, s, hsz, Addr.add_none]
  | @iaZ _ _ _ _ _ _ _ _ _ _ ts s =>
    intro x i ty ex' ei
    exact pvs fun ev w he hw => by
      obtain ⟨h1, h2⟩ := ts.h
      have hsz := run_sizeOf' (Pr := Pr) (t := _) (n := _) (tsz h2) w
      simp [ex, execOp, he _ _ ex', he _ _ ei, Instr.indexAt, run_underlying h1, asIntOf, s.1, s.2, hsz, Addr.add_none]
  | @iaA _ _ _ _ _ _ _ _ _ ts hj s =>
    intro x i ty ex' ei
    exact pvs fun ev w he hw => by
      obtain ⟨h1, h2⟩ := ts.h
      have hsz := run_sizeOf' (Pr := Pr) (t := _) (n := _) h2 w
      simp [ex, execOp, he _ _ ex', he _ _ ei, Instr.indexAt, run_underlying h1, asIntOf, Instr.sureAddr, hj.h, s, hsz, Addr.add_none]
  | @build _ _ _ _ _ _ _ tb e _ ih => exact ih _ _ _ tb e
  | @bdF _ _ _ _ hf => intro fl ps ty tb e; exact pvs fun ev w he hw => run_build he tb e hf.h w
  | field e ec => exact pvs fun ev w he hw => by simp [ex, execOp, he _ _ e, run_field1 ec]
  | makeFunc e e' =>
    exact pvs fun ev w he hw => by
      have h1 := evl_map he e
      have h2 := evl_map he e'
      have h3 : ∀ {xs : Array Operand} {l : List Value}, xs.toList.map ev = l → xs.map ev = l.toArray := fun h => by apply Array.toList_inj.1; simpa using h
      simp [ex, execOp, Instr.makeFunc, h3 h1, h3 h2]
  | slice ex' em eh el s hm => exact pvs fun ev w he hw => run_slice he ex' em eh el s hm w
  | minI e e' => exact pvs (fun ev w he hw => by
      simp [ex, execOp, he _ _ e, he _ _ e', resolve, invoke, builtin, Builtin.min_, Builtin.min2, Int.min_def]; split <;> split <;> first | rfl | omega)
  | maxI e e' => exact pvs (fun ev w he hw => by
      simp [ex, execOp, he _ _ e, he _ _ e', resolve, invoke, builtin, Builtin.max_, Builtin.max2, Int.max_def]; split <;> split <;> first | rfl | omega)
  | opS h => exact h
theorem StL.stab {ops : Array Oper} {ρ : Env} {L : List HP} {pend : List (Nat × Nat × Value)} (h : StL Pr B N ops ρ L pend) : ∀ p ∈ pend, Stab Pr B N ops ρ L p := by
  induction h with
  | nil => intro p hp; cases hp
  | cons e b g h _ ih =>
    intro p hp
    rcases List.mem_cons.1 hp with rfl | hp
    · refine ⟨_, _, e, b, g, ?_, ?_⟩
      · rintro rfl; cases h with | yes p => exact p.sound
      · rintro rfl; cases h; rfl
    · exact ih p hp

theorem W.sound {c : Cf} {ρ : Env} {d : List Deferred} {L : List HP} (h : W Pr B N ro Q c ρ d L) : Means Pr B N ro Q c ρ d L := by
  induction h with
  | app _ ih => rename_i x _; rw [← x.h]; exact ih
  | skip _ ih => exact semR_skip ih
  | label _ ih => exact semR_label ih
  | seq _ ih => exact semR_seq ih
  | cond e _ ih => exact semR_cond e ih
  | brnT _ ih => exact ih
  | brnF _ ih => exact ih
  | @brnD x y k ρ d L p dp h h' ih ih' =>
    show SemR Pr B N ro Q (.code (if decide p = true then x else y) :: k) ρ d L
    by_cases hp : p
    · rw [if_pos (decide_eq_true hp)]; exact ih hp
    · rw [if_neg (by simpa using hp)]; exact ih' hp
  | block _ ih => exact semR_block ih
  | inBlock _ ih => exact semR_inBlock ih
  | scope _ ih => exact semR_scope ih
  | inScope _ ih => exact semR_inScope ih
  | exit e _ ih => exact semR_exit e ih
  | region _ ih => exact semR_region ih
  | regionEnd _ ih => exact semR_regionEnd ih
  | oper e g _ ih => exact semR_oper e (gd_ok g) ih
  | grdT _ ih => exact semG_wanted ih
  | grdF e _ ih => exact semG_unwanted (dok_some e) ih
  | grdG _ ih => exact semG_unwanted rfl ih
  | mv e b _ ih => exact semO_pure b (by intro c h; cases h) (fun ev w he hw => by simp [ex, execOp, he _ _ e]) ih
  | asg e b _ ih => exact semO_pure b (by intro c h; cases h) (fun ev w he hw => by simp [ex, execOp, he _ _ e]) ih
  | pick e e' b _ ih =>
    rename_i q v _
    exact semO_pure b (by intro c h; cases h) (fun ev w he hw => by
      have := he _ _ e'
      cases q <;> simp only [cond_true, cond_false] at this <;> simp [ex, execOp, he _ _ e, asBool, this]) ih
  | fieldAddr e b _ ih => exact semO_pure b (by intro c h; cases h) (fun ev w he hw => by simp [ex, execOp, he _ _ e, run_fieldAt']) ih
  | load e _ ih => exact ih _ _ e
  | ld1 ec b _ ih =>
    rename_i hb _
    intro x ty e
    exact semO_pure b (by intro c h; cases h) (fun ev w he hw => by simp [ex, execOp, he _ _ e, Instr.loadAt, Instr.sureAddr, run_loadVar1 (hb.h w hw) ec]) ih
  | ldA ec b _ ih =>
    rename_i hb _
    intro x ty e
    exact semO_pure b (by intro c h; cases h) (fun ev w he hw => by simp [ex, execOp, he _ _ e, Instr.loadAt, Instr.sureAddr, run_loadVarA (hb.h w hw) ec]) ih
  | ldS hs b _ ih =>
    intro x ty e
    exact semO_val (dok_some b) (by intro c h; cases h) fun ev w he hw => let ⟨w', h1, h2⟩ := hs w hw; ⟨_, w', _, .inl (by simp [ex, execOp, he _ _ e, h1]), h2, ih⟩
  | store e e' _ ih => exact ih _ _ _ e e'
  | sto _ ih =>
    rename_i ce hz hl hp hs _
    intro x y ty e e'
    refine semO_val rfl (by intro c h; cases h) fun ev w he hw => ?_
    obtain ⟨w', hr, hst⟩ := run_storeVar' (Pr := Pr) hz.h hl.h ce.h hs.h (hw.perm hp.perm)
    exact ⟨undef, w', _, .inr ⟨by simp [ex, execOp, he _ _ e, he _ _ e', Instr.storeAt, Instr.sureAddr, hr], rfl⟩, hst, ih⟩
  | stS hs _ ih =>
    intro x y ty e e'
    exact semO_val rfl (by intro c h; cases h) fun ev w he hw => let ⟨w', h1, h2⟩ := hs w hw; ⟨undef, w', _, .inr ⟨by simp [ex, execOp, he _ _ e, he _ _ e', h1], rfl⟩, h2, ih⟩
  | nilCheck e b _ ih => exact semO_pure b (by intro c h; cases h) (fun ev w he hw => by simp [ex, execOp, he _ _ e]) ih
  | add b _ s ih => intro x y yt ty e e'; exact semO_pure b (by intro c h; cases h) (fun ev w he hw => by simp [ex, execOp, he _ _ e, he _ _ e', eqGuard_add, binOp, Op.intArith, wrap_kin s]) ih
  | sub b _ s ih => intro x y yt ty e e'; exact semO_pure b (by intro c h; cases h) (fun ev w he hw => by simp [ex, execOp, he _ _ e, he _ _ e', eqGuard_sub, binOp, Op.intArith, wrap_kin s]) ih
  | mul b _ s ih => intro x y yt ty e e'; exact semO_pure b (by intro c h; cases h) (fun ev w he hw => by simp [ex, execOp, he _ _ e, he _ _ e', eqGuard_mul, binOp, Op.intArith, wrap_kin s]) ih
  | lss b _ _ ih ih' => intro x y yt ty e e'; exact semO_split b (by intro c h; cases h) (fun ev w he hw => by rw [ite_bool']; simp [ex, execOp, he _ _ e, he _ _ e', eqGuard_lss, binOp, Op.intCmp]) ih ih'
  | leq b _ _ ih ih' => intro x y yt ty e e'; exact semO_split b (by intro c h; cases h) (fun ev w he hw => by rw [ite_bool']; simp [ex, execOp, he _ _ e, he _ _ e', eqGuard_leq, binOp, Op.intCmp]) ih ih'
  | gtr b _ _ ih ih' => intro x y yt ty e e'; exact semO_split b (by intro c h; cases h) (fun ev w he hw => by rw [ite_bool']; simp [ex, execOp, he _ _ e, he _ _ e', eqGuard_gtr, binOp, Op.intCmp]) ih ih'
  | geq b _ _ ih ih' => intro x y yt ty e e'; exact semO_split b (by intro c h; cases h) (fun ev w he hw => by rw [ite_bool']; simp [ex, execOp, he _ _ e, he _ _ e', eqGuard_geq, binOp, Op.intCmp]) ih ih'
  | eql b _ _ ih ih' => intro x y yt ty e e'; exact semO_split b (by intro c h; cases h) (fun ev w he hw => by rw [ite_bool']; simp [ex, execOp, he _ _ e, he _ _ e', eqGuard_at_int, binOp, Op.intCmp, Bool.beq_eq_decide_eq]) ih ih'
  | neq b _ _ ih ih' => intro x y yt ty e e'; exact semO_split b (by intro c h; cases h) (fun ev w he hw => by rw [ite_bool'']; simp [ex, execOp, he _ _ e, he _ _ e', eqGuard_at_int, binOp, Op.intCmp, bne, Bool.beq_eq_decide_eq]) ih ih'
  | eqlS b _ _ ih ih' => intro x y yt ty e e'; exact semO_split b (by intro c h; cases h) (fun ev w he hw => by rw [ite_bool']; simp [ex, execOp, he _ _ e, he _ _ e', eqGuard_at_string, binOp, Op.stringOp, str_eq]) ih ih'
  | neqS b _ _ ih ih' => intro x y yt ty e e'; exact semO_split b (by intro c h; cases h) (fun ev w he hw => by rw [ite_bool'']; simp [ex, execOp, he _ _ e, he _ _ e', eqGuard_at_string, binOp, Op.stringOp, str_eq]) ih ih'
  | eqlN b _ ih =>
    intro x y yt ty e e'
    exact semO_pure b (by intro c h; cases h) (fun ev w he hw => by simp only [ex, execOp, he _ _ e, he _ _ e']; rw [Sem.run_bind, (eqN_run (Pr := Pr) _ _ w).1]; rfl) ih
  | neqN b _ ih =>
    intro x y yt ty e e'
    exact semO_pure b (by intro c h; cases h) (fun ev w he hw => by simp only [ex, execOp, he _ _ e, he _ _ e']; rw [Sem.run_bind, (eqN_run (Pr := Pr) _ _ w).2]; rfl) ih
  | sadd b _ s ih => intro x y yt ty e e'; exact semO_pure b (by intro c h; cases h) (fun ev w he hw => by simp [ex, execOp, he _ _ e, he _ _ e', eqGuard_add, binOp, Op.stringOp]; exact s) ih
  | bitX b _ sd ih =>
    rename_i m n _
    intro x y yt ty e e'
    refine semO_pure b (by intro c h; cases h) (fun ev w he hw => ?_) (ih ((m.toNat ^^^ n.toNat : Nat) : Int) ⟨by omega, ?_, rfl⟩)
    · simp only [ex, execOp, he _ _ e, he _ _ e']
      rw [Sem.run_bind, run_bits (by simp), u32_xor _ _ sd.1 sd.2.1 sd.2.2.1 sd.2.2.2]; rfl
    · have := Nat.xor_lt_two_pow (x := m.toNat) (y := n.toNat) (n := 32) (by omega) (by omega)
      omega
  | bitA b _ sd ih =>
    rename_i m n _
    intro x y yt ty e e'
    refine semO_pure b (by intro c h; cases h) (fun ev w he hw => ?_) (ih ((m.toNat &&& n.toNat : Nat) : Int) ⟨by omega, ?_, ?_, rfl⟩)
    · simp only [ex, execOp, he _ _ e, he _ _ e']
      rw [Sem.run_bind, run_bits (by simp), u32_and _ _ sd.1 sd.2.1 sd.2.2.1 sd.2.2.2]; rfl
    · have : m.toNat &&& n.toNat ≤ m.toNat := Nat.and_le_left
      omega
    · have : m.toNat &&& n.toNat ≤ n.toNat := Nat.and_le_right
      omega
  | binR b _ sd ih =>
    rename_i c _
    intro x y yt ty e e'
    exact semO_pure b (by intro c h; cases h) (fun ev w he hw => by simp only [ex, execOp, he _ _ e, he _ _ e']; rw [Sem.run_bind, c.h sd]; rfl) ih
  | eqNil e hq b _ ih =>
    exact semO_pure b (by intro c h; cases h) (fun ev w he hw => by simp only [ex, execOp, he _ _ e, he _ _ (show evo _ (.const .nilIface) = some .nilIface from rfl)]; rw [Sem.run_bind, (run_eqNil hq w).1]; rfl) ih
  | neNil e hq b _ ih =>
    exact semO_pure b (by intro c h; cases h) (fun ev w he hw => by simp only [ex, execOp, he _ _ e, he _ _ (show evo _ (.const .nilIface) = some .nilIface from rfl)]; rw [Sem.run_bind, (run_eqNil hq w).2]; rfl) ih
  | tAs e b _ ih =>
    rename_i tn _
    exact semO_pure b (by intro c h; cases h) (fun ev w he hw => by
      have := tn.h
      cases hh : Pr.underlying _ with
      | none => rw [hh] at this; cases this
      | some dd => rw [hh] at this; cases dd <;> simp [ifD] at this <;> simp [ex, execOp, he _ _ e, Instr.typeAssert, run_underlying hh]) ih
  | binop e e' _ ih => exact ih _ _ _ _ e e'
  | unop e _ ih => exact ih _ _ _ e
  | unN b _ ih =>
    rename_i n _
    intro x t ty e
    exact semO_pure b (by intro c h; cases h) (fun ev w he hw => by simp [ex, execOp, he _ _ e, Op.unary, Op.intArith]) (ih (IntKind.u32.wrap (0 - n)) ⟨by rw [IntKind.wrap_u32']; omega, by rw [IntKind.wrap_u32']; omega, rfl⟩)
  | unR b _ sd ih =>
    rename_i c _
    intro x t ty e
    exact semO_pure b (by intro c h; cases h) (fun ev w he hw => by simp [ex, execOp, he _ _ e, c.h sd]) ih
  | cvt e _ ih =>
    rename_i tu ts _
    exact ih _ _ _ _ tu ts e
  | cv8 b _ ih =>
    intro s t x ty tu ts e
    obtain ⟨ds, hds⟩ := Option.isSome_iff_exists.1 ts.h
    exact semO_pure b (by intro c h; cases h) (fun ev w he hw => by simp [ex, execOp, he _ _ e, convert, run_underlying tu.h, run_underlying hds, Conv.intToInt, IntKind.wrap_u8']) ih
  | cv8' b _ ih =>
    intro s t x ty tu ts e
    obtain ⟨ds, hds⟩ := Option.isSome_iff_exists.1 ts.h
    exact semO_pure b (by intro c h; cases h) (fun ev w he hw => by simp [ex, execOp, he _ _ e, convert, run_underlying tu.h, run_underlying hds, Conv.intToInt, IntKind.wrap_u8']) ih
  | cvk b _ sd ih =>
    intro s t x ty tu ts e
    obtain ⟨ds, hds⟩ := Option.isSome_iff_exists.1 ts.h
    exact semO_pure b (by intro c h; cases h) (fun ev w he hw => by simp [ex, execOp, he _ _ e, convert, run_underlying tu.h, run_underlying hds, Conv.intToInt, wrap_kin sd]) ih
  | extract e e' b _ ih => exact semO_pure b (by intro c h; cases h) (fun ev w he hw => by simp [ex, execOp, he _ _ e, Instr.extract, e']) ih
  | lenL e b _ ih =>
    rename_i tu _
    obtain ⟨el, hu⟩ := tu.el
    exact semO_pure b (by intro c h; cases h) (fun ev w he hw => by simp [ex, execOp, he _ _ e, resolve, invoke, builtin, Builtin.len_, run_underlying hu, goInt]) ih
  | lenS e b _ ih =>
    rename_i tu _
    exact semO_pure b (by intro c h; cases h) (fun ev w he hw => by simp [ex, execOp, he _ _ e, resolve, invoke, builtin, Builtin.len_, run_underlying tu.h, goInt]) ih
  | lenM e _ ih =>
    rename_i tu _
    exact ih _ _ _ _ _ tu e
  | lm1 b _ ih =>
    rename_i hb _
    intro x t ty kt et tu e
    exact semO_pure b (by intro c h; cases h) (fun ev w he hw => by
      have hh := hb.h w hw
      simp [ex, execOp, he _ _ e, resolve, invoke, builtin, Builtin.len_, run_underlying tu.h, goInt, getObj, Sem.run, hh]) ih
  | minI e e' b _ ih => exact semO_pure b (by intro c h; cases h) (fun ev w he hw => by
      simp [ex, execOp, he _ _ e, he _ _ e', resolve, invoke, builtin, Builtin.min_, Builtin.min2, Int.min_def]; split <;> split <;> first | rfl | omega) ih
  | maxI e e' b _ ih => exact semO_pure b (by intro c h; cases h) (fun ev w he hw => by
      simp [ex, execOp, he _ _ e, he _ _ e', resolve, invoke, builtin, Builtin.max_, Builtin.max2, Int.max_def]; split <;> split <;> first | rfl | omega) ih
  | build e _ ih =>
    rename_i tb _
    exact ih _ _ _ tb e
  | bdF b _ ih =>
    rename_i hf _
    intro fl ps ty tb e
    refine semO_pure b (by intro c h; cases h) (fun ev w he hw => ?_) ih
    obtain ⟨h1, h2⟩ := tb.h
    obtain ⟨zv, hz, hzc⟩ := run_zeroValue' h2 w
    obtain ⟨fs, hu, hp⟩ := structOf_ok h1
    have hfill := fill_ok he e hf.h
    simp only [ex, execOp, Instr.build, Sem.run_bind, hz, Result.andThen_ok, run_underlying hu, hp, hzc]
    simp only [List.getElem?_toArray, Array.toList_map, hfill]
    rfl
  | alloc b _ ih =>
    rename_i tz _
    refine semO_val (dok_some b) (by intro c h; cases h) fun ev w he hw => ?_
    obtain ⟨zv, hz, hzc⟩ := run_zeroValue' tz.h w
    exact ⟨_, _, _, .inl (by simp [ex, execOp, Instr.alloc, hz, newVar, newRow, hzc]), hw.new _, ih _⟩
  | box e _ ih => exact ih _ _ e
  | bxC b _ ih =>
    rename_i ce _
    intro x ty e
    exact semO_val (dok_some b) (by intro c h; cases h) fun ev w he hw => ⟨_, _, _, .inl (by simp [ex, execOp, he _ _ e, Instr.box, newVar, newRow, ce.h]), hw.new _, ih _⟩
  | makeFunc e e' b _ ih =>
    exact semO_pure b (by intro c h; cases h) (fun ev w he hw => by
      have h1 := evl_map he e
      have h2 := evl_map he e'
      have h3 : ∀ {xs : Array Operand} {l : List Value}, xs.toList.map ev = l → xs.map ev = l.toArray := fun h => by apply Array.toList_inj.1; simpa using h
      simp [ex, execOp, Instr.makeFunc, h3 h1, h3 h2]) ih
  | makeIface e b _ ih =>
    rename_i tn _
    exact semO_pure b (by intro c h; cases h) (fun ev w he hw => by
      have := tn.h
      cases hh : Pr.underlying _ with
      | none => rw [hh] at this; cases this
      | some dd => rw [hh] at this; cases dd <;> simp [ifD] at this <;> simp [ex, execOp, he _ _ e, Instr.makeInterface, run_underlying hh]) ih
  | makeMap b _ ih =>
    exact semO_val (dok_some b) (by intro c h; cases h) fun ev w he hw => ⟨_, _, _, .inl (by simp [ex, execOp, Instr.makeMap]), hw.new _, ih _⟩
  | slice ex' em eh el b _ s hm ih =>
    rename_i t x lo hi mx ty dst k ρ d L e sz by' bb o n c l hh m ts _
    refine semO_val (dok_some b) (by intro c h; cases h) fun ev w he hw => ?_
    exact ⟨_, w, _, .inl (run_slice he ex' em eh el s hm w), hw, ih (if m.toNat = l.toNat then o else o + l.toNat * sz) (fun hlt => if_neg (fun e => by rw [e] at hlt; exact Nat.lt_irrefl _ hlt))⟩
  | sliceS ex' eh el b _ sd ih =>
    rename_i tu _
    exact semO_pure b (by intro c h; cases h) (fun ev w he hw => by
      have := run_sliceBounds (Pr := Pr) (mx := none) he (isS := false) (c := (_ : ByteArray).size) (by simp [cutAt]) eh el ⟨sd.1, sd.2.1, sd.2.2, Int.le_refl _⟩ (by intro h; cases h) w
      simp only [Option.map_none] at this
      simp [ex, execOp, he _ _ ex', Instr.sliceAt, run_underlying tu.h, Instr.slice, this]) ih
  | indexAddr ex' ei _ ih => exact ih _ _ _ ex' ei
  | iaN b _ s ih =>
    rename_i ts hj _
    intro x i ty ex' ei
    exact semO_pure b (by intro c h; cases h) (fun ev w he hw => by
      obtain ⟨h1, h2⟩ := ts.h
      have hsz := run_sizeOf' (Pr := Pr) (t := _) (n := _) (tsz h2) w
      simp [ex, execOp, he _ _ ex', he _ _ ei, Instr.indexAt, run_underlying h1, asIntOf, hj.h, s, hsz, Addr.add_none]) ih
  | iaZ b _ s ih =>
    rename_i ts _
    intro x i ty ex' ei
    exact semO_pure b (by intro c h; cases h) (fun ev w he hw => by
      obtain ⟨h1, h2⟩ := ts.h
      have hsz := run_sizeOf' (Pr := Pr) (t := _) (n := _) (tsz h2) w
      simp [ex, execOp, he _ _ ex', he _ _ ei, Instr.indexAt, run_underlying h1, asIntOf, s.1, s.2, hsz, Addr.add_none]) ih
  | iaA b _ s ih =>
    rename_i ts hj _
    intro x i ty ex' ei
    exact semO_pure b (by intro c h; cases h) (fun ev w he hw => by
      obtain ⟨h1, h2⟩ := ts.h
      have hsz := run_sizeOf' (Pr := Pr) (t := _) (n := _) h2 w
      simp [ex, execOp, he _ _ ex', he _ _ ei, Instr.indexAt, run_underlying h1, asIntOf, Instr.sureAddr, hj.h, s, hsz, Addr.add_none]) ih
  | iaAZ b _ s ih =>
    rename_i ts _
    intro x i ty ex' ei
    exact semO_pure b (by intro c h; cases h) (fun ev w he hw => by
      obtain ⟨h1, h2⟩ := ts.h
      have hsz := run_sizeOf' (Pr := Pr) (t := _) (n := _) h2 w
      simp [ex, execOp, he _ _ ex', he _ _ ei, Instr.indexAt, run_underlying h1, asIntOf, Instr.sureAddr, s.1, s.2, hsz, Addr.add_none]) ih
  | iaS hs b _ ih =>
    intro x i ty ex' ei
    exact semO_pure b (by intro c h; cases h) (fun ev w he hw => by simp [ex, execOp, he _ _ ex', he _ _ ei, hs w hw]) ih
  | indexS ex' ei _ ih =>
    rename_i tu _
    exact ih _ _ _ _ tu ex' ei
  | isN b _ sd ih =>
    rename_i hj _
    intro x i t ty tu ex' ei
    exact semO_pure b (by intro c h; cases h) (fun ev w he hw => by have := run_indexS (ty := ty) tu.h (he _ _ ex') (he _ _ ei) (by rw [hj.h]; omega) w; rw [hj.h] at this; simpa using this) ih
  | isZ b _ sd ih =>
    intro x i t ty tu ex' ei
    exact semO_pure b (by intro c h; cases h) (fun ev w he hw => run_indexS tu.h (he _ _ ex') (he _ _ ei) sd w) ih
  | field e ec b _ ih =>
    rename_i tf t1 _
    exact semO_pure b (by intro c h; cases h) (fun ev w he hw => by simp [ex, execOp, he _ _ e, run_field1 ec]) ih
  | bslice hn hz ep _ ih =>
    rename_i ts tz lz az _
    exact ih _ _ _ _ _ _ ts tz lz az.h (Nat.le_of_ble_eq_true hn) (by simpa [Nat.blt_eq] using hz) ep
  | bsF b _ ih =>
    rename_i hf _
    intro t sz by' z0 ps ty ts tz lz hz hn hs0 ep
    refine semO_val (dok_some b) (by intro c h; cases h) fun ev w he hw => ?_
    exact ⟨_, _, _, .inl (run_bslice he ts tz lz hz hn hs0 ep hf.h w), hw.new _, ih _⟩
  | drawn ms todo hm hc _ ih => exact semR_drawn hm hc ih
  | dS e hp _ ih => exact ih e hp
  | dP g _ ih => exact ih
  | dE hc hs hp hj g _ ih => intro e hq; exact semK_eff e hc hs.stab hp hj g ih
  | dN hs hj _ ih => exact semK_end hs.stab hj ih
  | dgF _ ih => intro e hp; exact semK_pend e rfl hp ih
  | dgB e e' _ ih => intro e1 hp; exact ih _ e1 hp rfl
  | dgP p _ ih => intro e hp; exact semK_pend e rfl hp ih
  | @dbC o t v u p s i ops ms todo pend k ρ d L c h h' ih ih' =>
    intro oo e hp hd
    by_cases hh : p
    · exact semK_pend e hd hp (ih hh)
    · exact semK_pend e hd hp (ih' hh)
  | dbP p _ ih => intro oo e hp hd; exact semK_pend e hd hp ih
  | nil h => exact semR_nil h
  | ret h => exact semR_ret h
  | leave e h => exact semR_leave e h
  | loop _ _ ih => exact semR_loop ih
  | inLoop _ _ ih => exact semR_inLoop ih
  | call ef ea b c _ hp ih =>
    exact semO_call b ef ea fun w hw => (c w hw).mono fun e w' hr => by
      cases e with
      | returned v => obtain ⟨L', h1, h2⟩ := hr; exact ⟨L', h1, ih v L' h2⟩
      | panicked ch => obtain ⟨L', h1, h2⟩ := hr; exact ⟨L', h1, hp ch L' h2⟩
      | outgrown => exact hr.elim
  | defer ef ea b hr _ ih =>
    exact semO_defer b hr (fun ev w he => by
      have h1 := evl_map he ea
      have h3 : ∀ {xs : Array Operand} {l : List Value}, xs.toList.map ev = l → xs.map ev = l.toArray := fun h => by apply Array.toList_inj.1; simpa using h
      simp [ex, execOp, resolve, he _ _ ef, Deferred.ofValue, h3 h1]) ih
  | panic e h =>
    exact semO_panic (by intro c h; cases h) (fun ev w he hw => ⟨w, by simp [ex, execOp, he _ _ e, Instr.panic], hw⟩) h
  | opS S b hro hs _ ih =>
    exact semO_val b hro fun ev w he hw => let ⟨v, w', L', h1, h2, h3⟩ := hs ev w he hw; ⟨v, w', L', h1, h2, ih v L' h3⟩
  | ghost L' e _ ih => exact Means.ghost ih e
  | env e _ ih => exact SemR.env ih e
  | sem h => exact h
end Go.Proofs.YtbgkljpbemehiaaGreat.Sx
