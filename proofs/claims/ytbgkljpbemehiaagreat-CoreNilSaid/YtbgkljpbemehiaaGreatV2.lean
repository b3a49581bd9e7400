/- A run with known values: operations that only read. No condition. -/
import Derived.Test.YtbgkljpbemehiaaGreatV1
import Derived.Test.YtbgkljpbemehiaaGreatS3
import Derived.Laws.StructEq
set_option maxHeartbeats 2000000
namespace Go.Proofs.YtbgkljpbemehiaaGreat.Sx

variable {ω : List Value} {β β' : List (Option B3)} {B : World} {H : HV} {nx : Nat} {w : World} {Pr : Program}

theorem intB_ok {o : BinOp} {k : IntKind} {a b : Int} {v : V} (h : intB o k a b = some v) (ho : o ≠ .shl) (ho' : o ≠ .shr) (t : TypeId) (w : World) : ∃ x, (binOp o t (.int k a) (.int k b)).run Pr w = .ok x w ∧ Den ω β v x := by
  cases o <;> simp only [intB, Option.some.injEq] at h <;> first | (cases h; done) | skip
  case quo =>
    by_cases hb : b = 0
    · simp [hb] at h
    · simp [hb] at h; subst h; exact ⟨_, by simp [binOp, Op.intDiv, hb], rfl⟩
  case rem =>
    by_cases hb : b = 0
    · simp [hb] at h
    · simp [hb] at h; subst h; exact ⟨_, by simp [binOp, Op.intDiv, hb], rfl⟩
  all_goals (subst h; refine ⟨_, ?_, rfl⟩; simp [binOp, Op.intArith, Op.intBits, Op.intCmp])
theorem shB_ok {o : BinOp} {k k' : IntKind} {a b : Int} {v : V} (h : shB o k a b = some v) (ho : o = .shl ∨ o = .shr) (t : TypeId) (w : World) : ∃ x, (binOp o t (.int k a) (.int k' b)).run Pr w = .ok x w ∧ Den ω β v x := by
  unfold shB at h
  by_cases hb : b < 0
  · simp [hb] at h
  · simp only [hb, decide_false, cond_false] at h
    rcases ho with rfl | rfl <;> simp only [Option.some.injEq] at h <;> subst h <;> exact ⟨_, by simp [binOp, Op.shift, hb], rfl⟩

theorem byt_list (s : List Nat) : (byt s).toList = s.map UInt8.ofNat := by rw [ByteArray.toList_eq]; simp [byt]
theorem ofNat_inj {a b : Nat} (ha : a < 256) (hb : b < 256) : (UInt8.ofNat a == UInt8.ofNat b) = Nat.beq a b := by
  by_cases e : a = b
  · subst e; simp
  · rw [beq_ne e]
    rw [Bool.eq_false_iff]; intro h
    have h : UInt8.ofNat a = UInt8.ofNat b := by simpa using h
    have := congrArg UInt8.toNat h
    simp at this; omega
theorem strEq_ok : ∀ {a b : List Nat}, (∀ x ∈ a, x < 256) → (∀ x ∈ b, x < 256) → (a.map UInt8.ofNat == b.map UInt8.ofNat) = strEq a b
  | [], [], _, _ => rfl
  | [], _ :: _, _, _ => rfl
  | _ :: _, [], _, _ => rfl
  | x :: a, y :: b, ha, hb => by
    have ih := strEq_ok (a := a) (b := b) (fun z hz => ha z (List.mem_cons_of_mem _ hz)) (fun z hz => hb z (List.mem_cons_of_mem _ hz))
    simp only [List.map_cons, strEq, ← ih, ← ofNat_inj (ha x (by simp)) (hb y (by simp))]
    rfl
theorem strLt_ok : ∀ {a b : List Nat}, (∀ x ∈ a, x < 256) → (∀ x ∈ b, x < 256) → Op.bytesLess (a.map UInt8.ofNat) (b.map UInt8.ofNat) = strLt a b
  | [], [], _, _ => rfl
  | _ :: _, [], _, _ => rfl
  | [], _ :: _, _, _ => rfl
  | x :: a, y :: b, ha, hb => by
    have ih := strLt_ok (a := a) (b := b) (fun z hz => ha z (List.mem_cons_of_mem _ hz)) (fun z hz => hb z (List.mem_cons_of_mem _ hz))
    have hx := ha x (by simp)
    have hy := hb y (by simp)
    simp only [List.map_cons, Op.bytesLess, strLt, ih, ofNat_inj hx hy]
    congr 1
    have : (UInt8.ofNat x < UInt8.ofNat y) ↔ x < y := by
      rw [UInt8.lt_iff_toNat_lt]; simp; omega
    rw [Bool.eq_iff_iff]; simp [this, Nat.blt_eq]
theorem byt_append (a b : List Nat) : byt a ++ byt b = byt (a ++ b) := by
  apply ByteArray.ext
  simp [byt]
theorem byt_size (a : List Nat) : (byt a).size = a.length := by simp [byt, ByteArray.size]

theorem strB_ok {o : BinOp} {a b : List Nat} {v : V} (h : strB o a b = some v) (ha : ∀ x ∈ a, x < 256) (hb : ∀ x ∈ b, x < 256) (t : TypeId) (w : World) : ∃ x, (binOp o t (.string (byt a)) (.string (byt b))).run Pr w = .ok x w ∧ Den ω β v x := by
  have e1 := strEq_ok ha hb
  have e2 := strLt_ok ha hb
  rw [← byt_list, ← byt_list] at e1 e2
  cases o <;> simp only [strB, Option.some.injEq] at h <;> first | (cases h; done) | skip
  case add =>
    cases hl : Nat.ble (a.length + b.length) 9223372036854775807 with
    | false => rw [hl] at h; cases h
    | true =>
      rw [hl] at h; simp only [cond_true, Option.some.injEq] at h; subst h
      have := Nat.le_of_ble_eq_true hl
      refine ⟨.string (byt (a ++ b)), ?_, rfl, fun x hx => (List.mem_append.1 hx).elim (ha x) (hb x)⟩
      simp only [binOp, Op.stringOp, byt_size, byt_append]
      rw [if_neg (by simp; omega)]; rfl
  all_goals (subst h; refine ⟨_, ?_, rfl⟩; simp [binOp, Op.stringOp, e1, e2])

/-! ### equality -/
theorem und {t : TypeId} {d : TypeDesc} (h : Pr.underlying t = some d) (w : World) : (underlying t).run Pr w = .ok d w := run_underlying h w
theorem allF_ok {d : Nat} {xs ys : List Value} {xv yv : List V} (hx : DenL ω β xv xs) (hy : DenL ω β yv ys) (ih : ∀ {t : TypeId} {a b : V} {q : Bool} {x y : Value} (w : World), WR B ω H nx β w → eqA Pr d t a b = some q → Den ω β a x → Den ω β b y → ∀ d', d ≤ d' → (Op.equalIn d' t x y).run Pr w = .ok q w) :
    ∀ {fs : List Field} {q : Bool}, allF (fun f => match partV Pr f.type xv f.offset, partV Pr f.type yv f.offset with
        | some a, some b => eqA Pr d f.type a b
        | _, _ => none) fs = some q → ∀ (w : World), WR B ω H nx β w → ∀ d', d ≤ d' → (Op.eqFields d' (List.toArray xs) (List.toArray ys) fs).run Pr w = .ok q w
  | [], q, h, w, _, _, _ => by simp [allF] at h; subst h; rfl
  | f :: fs, q, h, w, hw, d', hd => by
    simp only [allF] at h
    simp only [Op.eqFields]
    by_cases hn : f.name = "_"
    · simp only [hn, decide_true, cond_true] at h
      rw [if_neg (by simpa using hn)]
      exact allF_ok hx hy ih h w hw d' hd
    · simp only [hn, decide_false, cond_false] at h
      rw [if_pos hn]
      split at h
      · rename_i e
        split at e
        · rename_i a b h1 h2
          obtain ⟨x, r1, d1⟩ := partV_ok h1 hx w
          obtain ⟨y, r2, d2⟩ := partV_ok h2 hy w
          have := ih w hw e d1 d2 d' hd
          simp only [Sem.run_bind, r1, r2, Result.andThen_ok, this, Bool.not_true, Bool.false_eq_true, if_false]
          exact allF_ok hx hy ih h w hw d' hd
        · cases e
      · rename_i r hr
        split at h
        · rename_i a b h1 h2
          obtain ⟨x, r1, d1⟩ := partV_ok h1 hx w
          obtain ⟨y, r2, d2⟩ := partV_ok h2 hy w
          have := ih w hw h d1 d2 d' hd
          have hq : q = false := by
            cases q with
            | false => rfl
            | true => exact absurd h (by simpa [h1, h2] using hr)
          subst hq
          simp only [Sem.run_bind, r1, r2, Result.andThen_ok, this]
          simp
        · cases h

theorem addr_beq (b o p : Nat) : ((⟨b, o, none⟩ : Addr) == ⟨b, p, none⟩) = Nat.beq o p := by
  by_cases e : o = p
  · subst e; simp
  · rw [beq_ne e, Bool.eq_false_iff]; intro h; simp at h; exact e h
theorem eqA_ok : ∀ (d : Nat) {t : TypeId} {a b : V} {q : Bool} {x y : Value} (w : World), WR B ω H nx β w → eqA Pr d t a b = some q → Den ω β a x → Den ω β b y → ∀ d', d ≤ d' → (Op.equalIn d' t x y).run Pr w = .ok q w
  | 0, _, _, _, _, _, _, _, _, h, _, _, _, _ => by simp [eqA] at h
  | d + 1, t, a, b, q, x, y, w, hw, h, da, db, d', hd => by
    obtain ⟨e, rfl⟩ : ∃ e, d' = e + 1 := ⟨d' - 1, by omega⟩
    have hd' : d ≤ e := by omega
    simp only [eqA] at h
    split at h
    · rename_i hu; simp only [Den] at da db; subst da; subst db; simp at h; subst h; simp [Op.equalIn, und hu]
    · rename_i k0 k m k' m' hu; simp only [Den] at da db; subst da; subst db
      by_cases hk : k = k'
      · simp [hk] at h; subst h; simp [Op.equalIn, und hu, hk]
      · simp [hk] at h
    · rename_i sa sb hu; simp only [Den] at da db; obtain ⟨rfl, ha⟩ := da; obtain ⟨rfl, hb⟩ := db
      simp at h; subst h
      rw [run_equalIn_string w e t _ _ hu, byt_list, byt_list, strEq_ok ha hb]
    · rename_i hu; simp only [Den] at da db; subst da; subst db; simp at h; subst h; simp [Op.equalIn, und hu]
    · rename_i hu; simp only [Den] at da db; subst da; obtain ⟨_, _, _, _, rfl⟩ := db; simp at h; subst h; simp [Op.equalIn, und hu]
    · rename_i hu; simp only [Den] at da db; subst db; obtain ⟨_, _, _, _, rfl⟩ := da; simp at h; subst h; simp [Op.equalIn, und hu]
    · rename_i el i o j p hu; simp only [Den] at da db
      obtain ⟨b1, f1, n1, e1, rfl⟩ := da; obtain ⟨b2, f2, n2, e2, rfl⟩ := db
      split at h
      · rename_i n hn
        cases hij : Nat.beq i j && !Nat.beq n 0 with
        | false => rw [hij] at h; cases h
        | true =>
          rw [hij] at h
          simp only [Bool.and_eq_true, Bool.not_eq_true'] at hij
          have hij1 := Nat.eq_of_beq_eq_true hij.1
          have hij2 : n ≠ 0 := fun e => by rw [e] at hij; cases hij.2
          subst hij1; rw [e1] at e2; cases e2
          simp only [cond_true, Option.some.injEq] at h; subst h
          simp only [Op.equalIn, Sem.run_bind, und hu, Result.andThen_ok, run_szV hn, ne_eq, hij2, not_false_eq_true, if_true, sameAddr, beq_self_eq_true, Sem.run_pure, addr_beq]
          congr 1
          by_cases e : o = p
          · subst e; simp
          · rw [beq_ne e, beq_ne (by omega)]
      · cases h
    · rename_i hu; simp only [Den] at da db; subst da; subst db; simp at h; subst h; simp [Op.equalIn, und hu]
    · rename_i hu; simp only [Den] at da db; subst da; obtain ⟨_, rfl, _⟩ := db; simp at h; subst h; simp [Op.equalIn, und hu]
    · rename_i hu; simp only [Den] at da db; subst db; obtain ⟨_, rfl, _⟩ := da; simp at h; subst h; simp [Op.equalIn, und hu]
    · rename_i ms tx vx ty vy hu; simp only [Den] at da db
      obtain ⟨x', rfl, dx⟩ := da; obtain ⟨y', rfl, dy⟩ := db
      by_cases ht : tx = ty
      · subst ht
        simp only [Nat.beq_refl, cond_true] at h
        split at h
        · rename_i i hi
          cases hc : i.comparable with
          | false => rw [hc] at h; cases h
          | true =>
            rw [hc] at h; simp only [cond_true] at h
            have := eqA_ok d w hw h dx dy e hd'
            simp [Op.equalIn, und hu, typeInfo, hi, hc, this]
        · cases h
      · rw [beq_ne ht] at h; simp at h; subst h
        simp [Op.equalIn, und hu, ht]
    · rename_i fs xs ys hu; simp only [Den] at da db
      obtain ⟨x', rfl, dx⟩ := da; obtain ⟨y', rfl, dy⟩ := db
      cases hs : Pr.stoodInHeld t with
      | true => rw [hs] at h; cases h
      | false =>
        rw [hs] at h; simp only [cond_false] at h
        have hf : Pr.fieldsOf t = fs := by simp [Program.fieldsOf, hu]
        rw [run_equalIn_struct w e t _ _ (by rw [hf]; exact hu) hs, hf]
        exact allF_ok dx dy (fun w hw he da db d' hd => eqA_ok d w hw he da db d' hd) h w hw e hd'
    all_goals (first | (exfalso; cases h; done) | (rename_i hu; simp only [Den] at da db; simp at h; subst h))
    · subst da; subst db; simp [Op.equalIn, und hu]
    · subst da; obtain ⟨_, _, _, _, rfl, _⟩ := db; simp [Op.equalIn, und hu]
    · subst da; obtain ⟨_, _, _, _, _, rfl, _⟩ := db; simp [Op.equalIn, und hu]
    · subst db; obtain ⟨_, _, _, _, rfl, _⟩ := da; simp [Op.equalIn, und hu]
    · subst db; obtain ⟨_, _, _, _, _, rfl, _⟩ := da; simp [Op.equalIn, und hu]
    · subst db; obtain ⟨_, _, rfl⟩ := da; simp [Op.equalIn, und hu]
    · subst da; subst db; simp [Op.equalIn, und hu]
    · subst da; obtain ⟨_, _, _, _, rfl⟩ := db; simp [Op.equalIn, und hu]
    · subst db; obtain ⟨_, _, _, _, rfl⟩ := da; simp [Op.equalIn, und hu]
    · subst da; subst db; simp [Op.equalIn, und hu]
    · subst da; obtain ⟨_, _, rfl, _⟩ := db; simp [Op.equalIn, und hu]
    · subst db; obtain ⟨_, _, rfl, _⟩ := da; simp [Op.equalIn, und hu]
    · subst db; obtain ⟨_, _, _, _, rfl⟩ := da; simp [Op.equalIn, und hu]

theorem Den.nif_inv {v : V} (h : Den ω β v .nilIface) : v = .nif ∨ ∃ i, v = .opq i := by
  cases v <;> simp [Den] at h ⊢
theorem Den.agg_inv {v : V} {p : Array Value} (h : Den ω β v (.agg p)) : ∃ l, v = .agg l := by
  cases v <;> simp [Den] at h ⊢
  exact absurd h.2 (by simp [Value.oneCell'])
theorem eqGuard_rest {o : BinOp} {t : TypeId} {x y : Operand} {a b : Value} (h1 : ¬ (a = .nilIface ∧ b = .nilIface)) (h2 : ¬ ((∃ p, a = .agg p) ∧ ∃ q, b = .agg q)) (w : World) : (eqGuard o t x y a b).run Pr w = .ok () w := by
  unfold eqGuard
  cases o <;> simp <;> (split <;> first | (exact absurd ⟨rfl, rfl⟩ h1) | (exact absurd ⟨⟨_, rfl⟩, ⟨_, rfl⟩⟩ h2) | rfl)
theorem guA_ok {o : BinOp} {t : TypeId} {x y : Operand} {v u : V} {a b : Value} (h : guA Pr t x y v u = true) (dv : Den ω β v a) (du : Den ω β u b) (w : World) : (eqGuard o t x y a b).run Pr w = .ok () w := by
  by_cases h1 : a = .nilIface ∧ b = .nilIface
  · obtain ⟨rfl, rfl⟩ := h1
    rcases dv.nif_inv with rfl | ⟨i, rfl⟩
    · rcases du.nif_inv with rfl | ⟨i, rfl⟩
      · simp only [guA, Bool.or_eq_true] at h
        have hc : ∃ c, x = .const c ∨ y = .const c := by
          rcases h with h | h
          · cases x <;> simp [isK] at h; exact ⟨_, .inl rfl⟩
          · cases y <;> simp [isK] at h; exact ⟨_, .inr rfl⟩
        obtain ⟨c, rfl | rfl⟩ := hc
        · unfold eqGuard; cases o <;> simp
        · unfold eqGuard; cases o <;> simp <;> cases x <;> simp
      · simp [guA] at h
    · simp [guA] at h
  · by_cases h2 : (∃ p, a = .agg p) ∧ ∃ q, b = .agg q
    · obtain ⟨⟨p, rfl⟩, q, rfl⟩ := h2
      obtain ⟨l, rfl⟩ := dv.agg_inv
      obtain ⟨m, rfl⟩ := du.agg_inv
      simp only [guA, Bool.not_eq_true'] at h
      exact run_eqGuard_agg w o t x y p q h
    · exact eqGuard_rest h1 h2 w

def plainV : Value → Bool
  | .int _ _ => false
  | .float _ _ => false
  | .complex _ _ _ => false
  | .string _ => false
  | _ => true
theorem binOp_eql {t : TypeId} {a b : Value} (h1 : plainV a = true) {q : Bool} {w : World} (h : (Op.equal t a b).run Pr w = .ok q w) :
    (binOp .eql t a b).run Pr w = .ok (.bool q) w ∧ (binOp .neq t a b).run Pr w = .ok (.bool (!q)) w := by
  cases a <;> first | (simp [plainV] at h1; done) | (constructor <;> simp [binOp, h])
theorem Den.plain {v : V} {a : Value} (h : plainA v = true) (dv : Den ω β v a) : plainV a = true := by
  cases v <;> first | (simp [plainA] at h; done) | skip
  all_goals (simp only [Den] at dv)
  all_goals first | (subst dv; rfl) | (obtain ⟨_, _, _, _, rfl, _⟩ := dv; rfl) | (obtain ⟨_, _, _, _, rfl⟩ := dv; rfl) | (obtain ⟨_, _, _, _, _, rfl, _⟩ := dv; rfl) | (obtain ⟨_, _, rfl, _⟩ := dv; rfl) | (obtain ⟨_, _, rfl⟩ := dv; rfl) | (obtain ⟨_, rfl, _⟩ := dv; rfl)
theorem binA_ok {o : BinOp} {t : TypeId} {x y : Operand} {v u r : V} {a b : Value} {w : World} (hw : WR B ω H nx β w) (h : binA Pr o t x y v u = some r) (dv : Den ω β v a) (du : Den ω β u b) :
    ∃ z, (do eqGuard o t x y a b; binOp o t a b : Sem Value).run Pr w = .ok z w ∧ Den ω β r z := by
  unfold binA at h
  split at h
  · rename_i k m k' m'
    simp only [Den] at dv du; subst dv; subst du
    have hg : (eqGuard o t x y (.int k m) (.int k' m')).run Pr w = .ok () w := eqGuard_other w
    split at h
    · obtain ⟨z, h1, h2⟩ := shB_ok (β := β) (ω := ω) (Pr := Pr) (k' := k') h (.inl rfl) t w; exact ⟨z, by simp only [Sem.run_bind, hg, Result.andThen_ok, h1], h2⟩
    · obtain ⟨z, h1, h2⟩ := shB_ok (β := β) (ω := ω) (Pr := Pr) (k' := k') h (.inr rfl) t w; exact ⟨z, by simp only [Sem.run_bind, hg, Result.andThen_ok, h1], h2⟩
    · rename_i o1 o2 n1 n2
      by_cases hk : k = k'
      · subst hk
        simp only [decide_true, cond_true] at h
        obtain ⟨z, h1, h2⟩ := intB_ok (β := β) (ω := ω) (Pr := Pr) h n1 n2 t w; exact ⟨z, by simp only [Sem.run_bind, hg, Result.andThen_ok, h1], h2⟩
      · simp [hk] at h
  · rename_i s r'
    simp only [Den] at dv du; obtain ⟨rfl, ha⟩ := dv; obtain ⟨rfl, hb⟩ := du
    obtain ⟨z, h1, h2⟩ := strB_ok (β := β) (ω := ω) (Pr := Pr) h ha hb t w
    exact ⟨z, by simp only [Sem.run_bind, eqGuard_rest (a := .string (byt s)) (b := .string (byt r')) (by simp) (by simp) w, Result.andThen_ok, h1], h2⟩
  · rename_i v0 u0 n1 n2
    split at h
    · cases hg0 : plainA v && guA Pr t x y v u with
      | false => rw [hg0] at h; cases h
      | true =>
        rw [hg0] at h; simp only [cond_true, Option.map_eq_some_iff] at h
        simp only [Bool.and_eq_true] at hg0
        obtain ⟨hp, hg⟩ := hg0
        obtain ⟨q, hq, rfl⟩ := h
        have := eqA_ok 100 w hw hq dv du 10000 (by omega)
        refine ⟨.bool q, ?_, rfl⟩
        simp only [Sem.run_bind, guA_ok hg dv du w, Result.andThen_ok]
        exact (binOp_eql (dv.plain hp) this).1
    · cases hg0 : plainA v && guA Pr t x y v u with
      | false => rw [hg0] at h; cases h
      | true =>
        rw [hg0] at h; simp only [cond_true, Option.map_eq_some_iff] at h
        simp only [Bool.and_eq_true] at hg0
        obtain ⟨hp, hg⟩ := hg0
        obtain ⟨q, hq, rfl⟩ := h
        have := eqA_ok 100 w hw hq dv du 10000 (by omega)
        refine ⟨.bool (!q), ?_, rfl⟩
        simp only [Sem.run_bind, guA_ok hg dv du w, Result.andThen_ok]
        exact (binOp_eql (dv.plain hp) this).2
    · cases h

end Go.Proofs.YtbgkljpbemehiaaGreat.Sx
