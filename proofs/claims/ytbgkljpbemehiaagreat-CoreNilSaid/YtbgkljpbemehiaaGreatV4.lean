/- A run with known values: the value of an operation that only reads. No condition. -/
import Derived.Test.YtbgkljpbemehiaaGreatV3
set_option maxHeartbeats 2000000
namespace Go.Proofs.YtbgkljpbemehiaaGreat.Sx

variable {ω : List Value} {β β' : List (Option B3)} {B : World} {H : HV} {nx : Nat} {w : World} {Pr : Program}

theorem optL_ok {ev : Operand → Option V} {ρ : Operand → Value} : ∀ {l : List Operand} {vs : List V}, optL ev l = some vs → EvR ω β ev ρ l → DenL ω β vs (l.map ρ)
  | [], vs, h, _ => by simp [optL] at h; subst h; exact DenL.nil_iff.2 rfl
  | x :: l, vs, h, he => by
    simp only [optL] at h
    split at h
    · rename_i y r h1 h2
      simp at h; subst h
      exact DenL.cons_iff.2 ⟨ρ x, l.map ρ, rfl, he x (by simp) _ h1, optL_ok h2 (fun z hz => he z (by simp [hz]))⟩
    · cases h
theorem partsA_ok {ev : Operand → Option V} {ρ : Operand → Value} : ∀ {l : List (Nat × Operand)} {vs : List (Nat × V)}, partsA ev l = some vs → EvR ω β ev ρ (l.map (·.2)) → PaR ω β vs (l.map fun p => (p.1, ρ p.2))
  | [], vs, h, _ => by simp [partsA] at h; subst h; rfl
  | (i, x) :: l, vs, h, he => by
    simp only [partsA] at h
    split at h
    · rename_i y r h1 h2
      simp at h; subst h
      exact ⟨ρ x, _, rfl, he x (by simp) _ h1, partsA_ok h2 (fun z hz => he z (by simp at hz ⊢; exact .inr hz))⟩
    · cases h

noncomputable def evPo (Pr : Program) (ev : Operand → Option V) (H : HV) (o : Op) : Option V := match o with
  | .move x => ev x
  | .assign x => ev x
  | .pick c a b => match ev c with
    | some (.bool q) => bif q then ev a else ev b
    | _ => none
  | .fieldAddr s x f => match ev x, Pr.underlying s with
    | some (.ptr i o), some (.struct fs) => match fs[f]? with
      | some d => match szV Pr d.type with
        | some n => bif Nat.beq n 0 then none else some (.ptr i (o + d.offset))
        | none => none
      | none => none
    | _, _ => none
  | .field s x f => match ev x, Pr.underlying s with
    | some (.agg cs), some (.struct fs) => match fs[f]? with
      | some d => partV Pr d.type cs d.offset
      | none => none
    | _, _ => none
  | .load t x => match ev x with
    | some (.ptr i o) => loadV Pr H t i o
    | _ => none
  | .nilCheck x => match ev x with
    | some (.ptr i o) => some (.ptr i o)
    | some (.fn (.func f) a c) => some (.fn (.func f) a c)
    | some (.yl i) => some (.yl i)
    | some (.ifc t v) => some (.ifc t v)
    | _ => none
  | .binOp op t x y _ => match ev x, ev y with
    | some v, some u => binA Pr op t x y v u
    | _, _ => none
  | .unOp op _ x => (ev x).bind (unA op)
  | .convert s t x => (ev x).bind (cvA Pr H s t)
  | .extract x i => match ev x with
    | some (.tup vs) => vs[i]?
    | _ => none
  | .indexAddr t x i => match ev x, ev i with
    | some v, some (.int _ j) => idxA Pr t v j
    | _, _ => none
  | .index t x i => match ev x, ev i with
    | some v, some (.int _ j) => ixA Pr t v j
    | _, _ => none
  | .slice t x lo hi mx => (ev x).bind fun v => sliceA Pr ev t v lo hi mx
  | .build t ps => (partsA ev ps.toList).bind (buildA Pr t)
  | .makeFunc f a c => match f, optL ev a.toList, optL ev c.toList with
    | .func g, some va, some vc => some (.fn (.func g) va vc)
    | _, _, _ => none
  | .makeInterface t x => match ev x, Pr.underlying t with
    | some v, some d => bif ifQ d then none else some (.ifc t v)
    | _, _ => none
  | .lookup t x k ok => match ev x, ev k with
    | some m, some k => lookA Pr H t m k ok
    | _, _ => none
  | .typeAssert x _ t ok => (ev x).bind (tasA Pr t ok)
  | .call { callee := .builtin .len, args, argTypes } => match args.toList, argTypes.toList with
    | [x], [t] => (ev x).bind (lenA Pr H t)
    | _, _ => none
  | .call { callee := .builtin .min, args, .. } => match optL ev args.toList with
    | some [.int k a, .int k' b] => bif decide (k = k') then some (.int k (if b < a then b else a)) else none
    | _ => none
  | .call { callee := .builtin .max, args, .. } => match optL ev args.toList with
    | some [.int k a, .int k' b] => bif decide (k = k') then some (.int k (if a < b then b else a)) else none
    | _ => none
  | _ => none

theorem evP_eq (ev : Operand → Option V) (H : HV) (o : Op) : evP Pr ev H o = evPo Pr ev H o := by
  cases o <;> first | rfl | skip
  all_goals (rename_i c; obtain ⟨callee, args, ats⟩ := c; cases callee <;> first | rfl | (rename_i bi; cases bi <;> rfl))

theorem evP_ok (hw : WR B ω H nx β w) {ev : Operand → Option V} {ρ : Operand → Value} {o : Op} {ty : TypeId} {v : V} (h : evP Pr ev H o = some v) (hev : EvR ω β ev ρ o.operands.toList) : ∃ x, (ex ρ o ty).run Pr w = .ok (.value x) w ∧ Den ω β v x := by
  have one : ∀ x, x ∈ o.operands.toList → ∀ u, ev x = some u → Den ω β u (ρ x) := hev
  rw [evP_eq] at h
  cases o <;> simp only [evPo] at h <;> first | (cases h; done) | skip
  case move x => exact ⟨ρ x, rfl, one x (by simp [Op.operands]) _ h⟩
  case assign x => exact ⟨ρ x, rfl, one x (by simp [Op.operands]) _ h⟩
  case pick c a b =>
    split at h
    · rename_i q hq
      have := one c (by simp [Op.operands]) _ hq
      simp only [Den] at this
      cases q
      · exact ⟨ρ b, by simp [ex, execOp, this, asBool], one b (by simp [Op.operands]) _ h⟩
      · exact ⟨ρ a, by simp [ex, execOp, this, asBool], one a (by simp [Op.operands]) _ h⟩
    · cases h
  case build t ps =>
    simp only [Option.bind_eq_some_iff] at h
    obtain ⟨vs, h1, h2⟩ := h
    obtain ⟨z, h3, h4⟩ := buildA_ok h2 (partsA_ok h1 (fun x hx => one x (by simpa [Op.operands] using hx))) w
    refine ⟨z, ?_, h4⟩
    have e : (ps.map fun p => (p.1, ρ p.2)) = List.toArray (ps.toList.map fun p => (p.1, ρ p.2)) := by apply Array.toList_inj.1; simp
    simp only [ex, execOp, Sem.run_bind]
    rw [show (ps.map fun (i, x) => (i, ρ x)) = ps.map fun p => (p.1, ρ p.2) from rfl, e, h3]; rfl
  case load t x =>
    split at h
    · rename_i i o h1
      have := one x (by simp [Op.operands]) _ h1
      simp only [Den] at this; obtain ⟨b, f, n, hb, hx⟩ := this
      obtain ⟨z, h2, h3⟩ := loadV_ok hw h hb
      exact ⟨z, by simp [ex, execOp, hx, Instr.loadAt, Instr.sureAddr, h2], h3⟩
    · cases h
  case nilCheck x =>
    split at h
    · rename_i i o h1
      have := one x (by simp [Op.operands]) _ h1
      simp at h; subst h
      have h2 := this
      simp only [Den] at h2; obtain ⟨b, f, n, hb, hx⟩ := h2
      exact ⟨ρ x, by simp [ex, execOp, hx], this⟩
    · rename_i g a c h1
      have := one x (by simp [Op.operands]) _ h1
      simp at h; subst h
      have h2 := this
      simp only [Den] at h2; obtain ⟨b, f, hx, _⟩ := h2
      exact ⟨ρ x, by simp [ex, execOp, hx], this⟩
    · rename_i i h1
      have := one x (by simp [Op.operands]) _ h1
      simp at h; subst h
      have h2 := this
      simp only [Den] at h2; obtain ⟨b, f, n, hb, hx⟩ := h2
      exact ⟨ρ x, by simp [ex, execOp, hx], this⟩
    · rename_i t u h1
      have := one x (by simp [Op.operands]) _ h1
      simp at h; subst h
      have h2 := this
      simp only [Den] at h2; obtain ⟨b, hx, _⟩ := h2
      exact ⟨ρ x, by simp [ex, execOp, hx], this⟩
    · cases h
  case binOp op t x y yt =>
    split at h
    · rename_i v u h1 h2
      obtain ⟨z, h3, h4⟩ := binA_ok hw h (one x (by simp [Op.operands]) _ h1) (one y (by simp [Op.operands]) _ h2)
      exact ⟨z, by simp only [ex, execOp]; rw [Sem.run_bind, h3]; rfl, h4⟩
    · cases h
  case unOp op t x =>
    simp only [Option.bind_eq_some_iff] at h
    obtain ⟨u, h1, h2⟩ := h
    obtain ⟨z, h3, h4⟩ := unA_ok (Pr := Pr) h2 (one x (by simp [Op.operands]) _ h1) w
    exact ⟨z, by simp [ex, execOp, h3], h4⟩
  case convert s t x =>
    simp only [Option.bind_eq_some_iff] at h
    obtain ⟨u, h1, h2⟩ := h
    obtain ⟨z, h3, h4⟩ := cvA_ok hw h2 (one x (by simp [Op.operands]) _ h1)
    exact ⟨z, by simp [ex, execOp, h3], h4⟩
  case makeInterface t x =>
    split at h
    · rename_i u d h1 h2
      obtain ⟨h3, h4⟩ := bcond' h
      simp at h4; subst h4
      refine ⟨.iface t (ρ x), ?_, ρ x, rfl, one x (by simp [Op.operands]) _ h1⟩
      cases d <;> first | (cases h3; done) | simp [ex, execOp, Instr.makeInterface, und h2]
    · cases h
  case makeFunc f a c =>
    split at h
    · rename_i g va vc h1 h2
      simp at h; subst h
      refine ⟨.func (.func g) (a.map ρ) (c.map ρ), by simp [ex, execOp, Instr.makeFunc], a.toList.map ρ, c.toList.map ρ, ?_, optL_ok h1 (fun z hz => one z (by simp [Op.operands] at hz ⊢; exact .inl hz)), optL_ok h2 (fun z hz => one z (by simp [Op.operands] at hz ⊢; exact .inr hz))⟩
      congr 1 <;> (apply Array.toList_inj.1; simp)
    · cases h
  case slice t x lo hi mx =>
    simp only [Option.bind_eq_some_iff] at h
    obtain ⟨u, h1, h2⟩ := h
    obtain ⟨z, h3, h4⟩ := sliceA_ok (Pr := Pr) (ρ := ρ) (fun y hy => one y (by simp [Op.operands] at hy ⊢; exact .inr (by rcases hy with h | h | h <;> simp [h]))) h2 (one x (by simp [Op.operands]) _ h1) w
    exact ⟨z, by simp [ex, execOp, h3], h4⟩
  case fieldAddr s x f =>
    split at h
    · rename_i i o fs h1 h2
      split at h
      · rename_i d h3
        split at h
        · rename_i n h4
          obtain ⟨h5, h6⟩ := bcond' h
          simp at h6; subst h6
          have := one x (by simp [Op.operands]) _ h1
          simp only [Den] at this; obtain ⟨b, f', n', hb, hx⟩ := this
          refine ⟨.pointer (some ⟨b, f' + (o + d.offset), none⟩), ?_, b, f', n', hb, rfl⟩
          have hn : n ≠ 0 := fun e => by rw [e] at h5; cases h5
          simp [ex, execOp, hx, Instr.fieldAt, und h2, h3, Instr.sureAddr, fieldPlace, run_szV h4, hn, add_at]
        · cases h
      · cases h
    · cases h
  case field s x f =>
    split at h
    · rename_i cs fs h1 h2
      split at h
      · rename_i d h3
        have := one x (by simp [Op.operands]) _ h1
        simp only [Den] at this; obtain ⟨xs, hx, dx⟩ := this
        obtain ⟨z, h4, h5⟩ := partV_ok h dx w
        exact ⟨z, by simp [ex, execOp, hx, Instr.field, und h2, h3, asAgg, h4], h5⟩
      · cases h
    · cases h
  case indexAddr t x i =>
    split at h
    · rename_i u k j h1 h2
      obtain ⟨z, h3, h4⟩ := idxA_ok (Pr := Pr) (k := k) h (one x (by simp [Op.operands]) _ h1) w
      have := one i (by simp [Op.operands]) _ h2
      simp only [Den] at this
      exact ⟨z, by simp [ex, execOp, this, h3], h4⟩
    · cases h
  case index t x i =>
    split at h
    · rename_i u k j h1 h2
      obtain ⟨z, h3, h4⟩ := ixA_ok (Pr := Pr) (k := k) h (one x (by simp [Op.operands]) _ h1) w
      have := one i (by simp [Op.operands]) _ h2
      simp only [Den] at this
      exact ⟨z, by simp [ex, execOp, this, h3], h4⟩
    · cases h
  case lookup t x k ok =>
    split at h
    · rename_i u kk h1 h2
      obtain ⟨z, h3, h4⟩ := lookA_ok hw h (one x (by simp [Op.operands]) _ h1) (one k (by simp [Op.operands]) _ h2)
      exact ⟨z, by simp [ex, execOp, h3], h4⟩
    · cases h
  case typeAssert x xt t ok =>
    simp only [Option.bind_eq_some_iff] at h
    obtain ⟨u, h1, h2⟩ := h
    obtain ⟨z, h3, h4⟩ := tasA_ok (Pr := Pr) (xt := xt) h2 (one x (by simp [Op.operands]) _ h1) w
    exact ⟨z, by simp [ex, execOp, h3], h4⟩
  case extract x i =>
    split at h
    · rename_i vs h1
      have := one x (by simp [Op.operands]) _ h1
      simp only [Den] at this; obtain ⟨xs, hx, dx⟩ := this
      obtain ⟨z, h2, h3⟩ := dx.get h
      exact ⟨z, by simp [ex, execOp, hx, Instr.extract, h2], h3⟩
    · cases h
  case call c =>
    obtain ⟨callee, args, ats⟩ := c
    cases callee with
    | value f => simp at h
    | invoke r m => simp at h
    | builtin bi =>
      have hop : (Op.call { callee := .builtin bi, args := args, argTypes := ats }).operands.toList = args.toList := by simp [Op.operands, Call.operands]
      rw [hop] at one hev
      cases bi <;> simp only [] at h <;> first | (cases h; done) | skip
      case len =>
        split at h
        · rename_i x t h1 h2
          simp only [Option.bind_eq_some_iff] at h
          obtain ⟨u, h3, h4⟩ := h
          obtain ⟨z, h5, h6⟩ := lenA_ok (ty := ty) hw h4 (one x (by rw [h1]; simp) _ h3)
          have e1 : args = #[x] := by apply Array.toList_inj.1; simp [h1]
          have e2 : ats = #[t] := by apply Array.toList_inj.1; simp [h2]
          subst e1; subst e2
          exact ⟨z, by simp [ex, execOp, resolve, invoke, builtin, h5], h6⟩
        · cases h
      case min =>
        split at h
        · rename_i k a k' b h1
          by_cases hk : k = k'
          · subst hk
            simp at h; subst h
            have d := optL_ok h1 hev
            obtain ⟨x, r, h2, d1, d2⟩ := DenL.cons_iff.1 d
            obtain ⟨y, s, rfl, d3, d4⟩ := DenL.cons_iff.1 d2
            rw [DenL.nil_iff.1 d4] at h2
            simp only [Den] at d1 d3; subst d1; subst d3
            have e : args.map ρ = #[.int k a, .int k b] := by apply Array.toList_inj.1; simp [h2]
            exact ⟨.int k (if b < a then b else a), by simp [ex, execOp, resolve, invoke, builtin, e, Builtin.min_, Builtin.min2], rfl⟩
          · simp [hk] at h
        · cases h
      case max =>
        split at h
        · rename_i k a k' b h1
          by_cases hk : k = k'
          · subst hk
            simp at h; subst h
            have d := optL_ok h1 hev
            obtain ⟨x, r, h2, d1, d2⟩ := DenL.cons_iff.1 d
            obtain ⟨y, s, rfl, d3, d4⟩ := DenL.cons_iff.1 d2
            rw [DenL.nil_iff.1 d4] at h2
            simp only [Den] at d1 d3; subst d1; subst d3
            have e : args.map ρ = #[.int k a, .int k b] := by apply Array.toList_inj.1; simp [h2]
            exact ⟨.int k (if a < b then b else a), by simp [ex, execOp, resolve, invoke, builtin, e, Builtin.max_, Builtin.max2], rfl⟩
          · simp [hk] at h
        · cases h

end Go.Proofs.YtbgkljpbemehiaaGreat.Sx
