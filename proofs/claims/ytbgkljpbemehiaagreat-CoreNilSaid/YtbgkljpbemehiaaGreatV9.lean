/- A run with known values: one step is as the machine's steps (the steps of code, calls' ends), and so are many. No condition. -/
import Derived.Test.YtbgkljpbemehiaaGreatV8
set_option maxHeartbeats 2000000
namespace Go.Proofs.YtbgkljpbemehiaaGreat.Sx

variable {ω : List Value} {β β' : List (Option B3)} {B : World} {H : HV} {nx : Nat} {w : World} {Pr : Program} {f0 L : Nat}

theorem TdR.of {k : List IT} {its : List Item} {tm : Tr V} {tmps : Array Value} (h : ItL β k its) (ht : TmR ω β tm tmps) : TdR ω L β k its tm tmps := by
  unfold TdR
  split
  · obtain ⟨x, r, _, e, _⟩ := h; exact e.elim
  · exact ⟨h, ht⟩
theorem TdR.plain {k : List IT} {its : List Item} {tm : Tr V} {tmps : Array Value} (h : TdR ω L β k its tm tmps) (hn : ∀ a b c d k', k ≠ .dr a b c d :: k') : ItL β k its ∧ TmR ω β tm tmps := by
  unfold TdR at h
  split at h
  · exact absurd rfl (hn _ _ _ _ _)
  · exact h
theorem exitA_ok {id : Nat} : ∀ {k : List IT} {K : List Item}, ItL β k K → match exitA id k with
    | some k' => ∃ K', exitTo id K = some K' ∧ ItL β k' K'
    | none => exitTo id K = none
  | [], K, h => by have : K = [] := h; subst this; rfl
  | x :: k, K, ⟨y, r, e, hx, hr⟩ => by
    subst e
    have ih := exitA_ok (id := id) hr
    cases x with
    | inBlock j =>
      have : y = .inBlock j := hx
      subst this
      simp only [exitA, exitTo]
      by_cases e : j = id
      · subst e; simp; exact hr
      · rw [beq_ne e]; simp only [cond_false, show (j == id) = false by simpa using e, Bool.false_eq_true, if_false]; exact ih
    | dr => exact hx.elim
    | endRF l => obtain ⟨b, f, n, _, rfl⟩ := hx; exact ih
    | reg ops t => obtain ⟨hx, _⟩ := hx; subst hx; exact ih
    | _ => have hx' := hx; simp only [ItR] at hx'; subst hx'; exact ih

section step
variable {cs0 Fs : List Frame} {c : Cg} {b : Frame} {a : Act} {its its' : List Item} {fr : Fr}

theorem go_ok (hw : WR B ω c.H c.nx β w) (hcs : CsR ω L β c.cs Fs) (hb : FrB ω β fr (b.atR a its)) (hm : fr.mode = .run) (hst : step Pr (lone (b.atR a its) (Fs ++ cs0) w) = .next (lone (b.atR a its') (Fs ++ cs0) w)) {k : List IT} (htd : TdR ω L β k its' fr.tm a.tmps) :
    Goes Pr B ω f0 cs0 (lone (b.atR a its) (Fs ++ cs0) w) (c.go { fr with todo := k }) := by
  refine ⟨_, .one hst, L, β, w, _, Fs, rfl, hw, ⟨⟨hb.fn, hb.sz, hb.df, hb.kd, hb.rd⟩, ?_⟩, hcs⟩
  unfold MoR
  simp only [hm]
  exact ⟨rfl, htd⟩

theorem endRound_run {l : Nat} {r : Loop} {jump : Option Code} (h : w.heap[l]? = some (.loop r)) : (Instr.endRound l jump).run Pr w = .ok (.bool jump.isNone) { w with heap := w.heap.setIfInBounds l (.loop { r with state := if jump.isNone then .ready else .done, pending := jump }) } := by
  have h1 : (getObj l).run Pr w = .ok (.loop r) w := run_getObj' h (by simp)
  simp only [Instr.endRound, Instr.getLoop, Sem.run_bind, h1, Result.andThen_ok, Sem.run_pure, set_obj h (by simp)]
theorem cond_ite {α : Type} (q : Bool) (x y : α) : (bif q then x else y) = if q then x else y := by cases q <;> rfl

theorem leave_ok (hw : WR B ω c.H c.nx β w) (hcs : CsR ω L β c.cs Fs) (hb : FrB ω β c.top (b.atR a its)) (htm : TmR ω β c.top.tm a.tmps) {jump : Option Code}
    (hj : (jump = none ∧ its = []) ∨ (jump = some .ret ∧ ∃ K, its = .code .ret :: K) ∨ ∃ id K, jump = some (.exit id) ∧ its = .code (.exit id) :: K ∧ exitTo id K = none) : Goes Pr B ω f0 cs0 (lone (b.atR a its) (Fs ++ cs0) w) (leaveA c jump) := by
  unfold leaveA
  split
  · rename_i hr
    have hro : b.roundOf = none := by have := hb.rd; rw [hr] at this; exact this
    rcases hj with ⟨rfl, rfl⟩ | ⟨rfl, K, rfl⟩ | ⟨id, K, rfl, rfl, hx⟩
    · exact ⟨_, .one (stepR_end hro), L, β, w, _, Fs, rfl, hw, ⟨⟨hb.fn, hb.sz, hb.df, hb.kd, hb.rd⟩, rfl, htm⟩, hcs⟩
    · exact ⟨_, .one (stepR_ret hro), L, β, w, _, Fs, rfl, hw, ⟨⟨hb.fn, hb.sz, hb.df, hb.kd, hb.rd⟩, rfl, htm⟩, hcs⟩
    · trivial
  · rename_i l hr
    have hrd := hb.rd
    rw [hr] at hrd
    obtain ⟨lb, lf, ln, hlb, hro⟩ := hrd
    split
    · rename_i st pend fn nt tm params asg body df hl
      split
      · rename_i f dst r hc
        rw [hc] at hcs
        obtain ⟨F, G, β0, L0, rfl, hn0, hl0, hcall, hcs'⟩ := hcs
        cases hq : !c.top.defd && dokA f dst with
        | false => trivial
        | true =>
          simp only [cond_true]
          simp only [Bool.and_eq_true, Bool.not_eq_true'] at hq
          have hk : b.kind = .normal := by have := hb.kd; rw [hq.1] at this; exact this
          obtain ⟨ob, hob, tmps, db, df', dn, hdf, rfl, hsz, htl⟩ := hw.at hl hlb
          have hend := endRound_run (Pr := Pr) (jump := jump) hob
          have hst : step Pr (lone (b.atR a its) (F :: (G ++ cs0)) w) = .next (lone (F.finish (.bool jump.isNone)) (G ++ cs0) { w with heap := w.heap.setIfInBounds lb (.loop { ({ state := st, pending := pend, fn := fn, tmps := tmps, params := params.toArray, assign := asg, body := body, defers := db } : Loop) with state := if jump.isNone then .ready else .done, pending := jump }) }) := by
            rcases hj with ⟨rfl, rfl⟩ | ⟨rfl, K, rfl⟩ | ⟨id, K, rfl, rfl, hx⟩
            · exact stepR_round_end hro hk hend
            · exact stepR_round_ret hro hk hend
            · exact stepR_round_exit hro hk hx hend
          have hw' := hw.setObj (o' := .loop (bif jump.isNone then .ready else .done) jump fn nt tm params asg body df) hl hlb (ob := .loop { ({ state := st, pending := pend, fn := fn, tmps := tmps, params := params.toArray, assign := asg, body := body, defers := db } : Loop) with state := if jump.isNone then .ready else .done, pending := jump }) ⟨tmps, db, df', dn, hdf, by rw [cond_ite], hsz, htl⟩
          exact ⟨_, .one hst, L0, β, _, _, G, rfl, hw', hcall.1 β _ _ hl0 (by simp [Den]) hq.2, hcs'.mono hl0⟩
      · trivial
    · trivial

/-- operations that only read, one behind the other -/
theorem purA_ok (hw : WR B ω H nx β w) {ops : Array Oper} {K : List Item} : ∀ (l : List (Nat × Oper)) (tm : Tr V) (a : Act) {l' : List (Nat × Oper)} {tm' : Tr V}, purA Pr a.tmps.size ops H l tm = (l', tm') → (∀ p ∈ l, ops[p.1]? = some p.2) → TmR ω β tm a.tmps → ∀ (cs : List Frame),
    ∃ a', Steps Pr (lone (b.atR a (.inRegion ops (l.map (·.1)) :: K)) cs w) (lone (b.atR a' (.inRegion ops (l'.map (·.1)) :: K)) cs w) ∧ a'.defers = a.defers ∧ a'.tmps.size = a.tmps.size ∧ TmR ω β tm' a'.tmps ∧ ∀ p ∈ l', ops[p.1]? = some p.2 := by
  intro l
  induction l with
  | nil =>
    intro tm a l' tm' h hl htm cs
    simp only [purA, Prod.mk.injEq] at h
    obtain ⟨rfl, rfl⟩ := h
    exact ⟨a, .refl _ _, rfl, rfl, htm, hl⟩
  | cons p l ih =>
    intro tm a l' tm' h hl htm cs
    have stop : (p :: l, tm) = (l', tm') → ∃ a', Steps Pr (lone (b.atR a (.inRegion ops ((p :: l).map (·.1)) :: K)) cs w) (lone (b.atR a' (.inRegion ops (l'.map (·.1)) :: K)) cs w) ∧ a'.defers = a.defers ∧ a'.tmps.size = a.tmps.size ∧ TmR ω β tm' a'.tmps ∧ ∀ p ∈ l', ops[p.1]? = some p.2 := by
      intro e
      simp only [Prod.mk.injEq] at e
      obtain ⟨rfl, rfl⟩ := e
      exact ⟨a, .refl _ _, rfl, rfl, htm, hl⟩
    have ho := hl p (by simp)
    have hl2 : ∀ q ∈ l, ops[q.1]? = some q.2 := fun q hq => hl q (by simp [hq])
    have hg : ∀ t, gdA ops tm p.2.guard = some t → Region.wanted p.2 (yielded ops a.tmps) = t := fun t h => gdA_at h a.tmps (fun d v _ e => htm d v e)
    have on : ∀ d v x, p.2.dst = some d → Nat.blt d a.tmps.size = true → Den ω β v x → step Pr (lone (b.atR a (.inRegion ops (p.1 :: l.map (·.1)) :: K)) cs w) = .next (lone (b.atR (a.put p.2.dst x) (.inRegion ops (l.map (·.1)) :: K)) cs w) → purA Pr a.tmps.size ops H l (tm.put d (some v)) = (l', tm') →
        ∃ a', Steps Pr (lone (b.atR a (.inRegion ops ((p :: l).map (·.1)) :: K)) cs w) (lone (b.atR a' (.inRegion ops (l'.map (·.1)) :: K)) cs w) ∧ a'.defers = a.defers ∧ a'.tmps.size = a.tmps.size ∧ TmR ω β tm' a'.tmps ∧ ∀ p ∈ l', ops[p.1]? = some p.2 := by
      intro d v x hd hlt dv hst hp
      have hsz : (a.put p.2.dst x).tmps.size = a.tmps.size := by rw [hd]; simp [Act.put]
      have htm2 : TmR ω β (tm.put d (some v)) (a.put p.2.dst x).tmps := by rw [hd]; exact htm.put (by simpa [Nat.blt_eq] using hlt) dv
      obtain ⟨a', h1, h2, h3, h4, h5⟩ := ih (l' := l') (tm' := tm') (tm.put d (some v)) (a.put p.2.dst x) (by rw [hsz]; exact hp) hl2 htm2 cs
      exact ⟨a', .head hst h1, h2.trans (put_defers _ _ _), h3.trans hsz, h4, h5⟩
    have hunf : purA Pr a.tmps.size ops H (p :: l) tm = (match p.2.dst with
    | none => (p :: l, tm)
    | some d => (match gdA ops tm p.2.guard with
      | some true => (match evP Pr (opA tm) H p.2.op with
        | some v => Bool.rec (motive := fun _ => List (Nat × Oper) × Tr V) (p :: l, tm) (purA Pr a.tmps.size ops H l (tm.put d (some v))) (Nat.blt d a.tmps.size)
        | none => (p :: l, tm))
      | some false => Bool.rec (motive := fun _ => List (Nat × Oper) × Tr V) (p :: l, tm) (purA Pr a.tmps.size ops H l (tm.put d (some (.tup [])))) (Nat.blt d a.tmps.size)
      | none => (p :: l, tm))) := rfl
    rw [hunf] at h
    split at h
    · exact stop h
    · rename_i d hd
      split at h
      · rename_i hgd
        split at h
        · rename_i v hv
          rw [rec_cond] at h
          cases hlt : Nat.blt d a.tmps.size with
          | false => rw [hlt] at h; exact stop h
          | true =>
            rw [hlt] at h
            obtain ⟨x, h1, h2⟩ := evP_ok (ty := p.2.type) hw hv (ρ := a.eval) (fun x _ u e => opA_ok htm x u e)
            exact on d v x hd hlt h2 (step_val ho (hg _ hgd) (evP_nd hv) (.inl h1)) h
        · exact stop h
      · rename_i hgd
        rw [rec_cond] at h
        cases hlt : Nat.blt d a.tmps.size with
        | false => rw [hlt] at h; exact stop h
        | true =>
          rw [hlt] at h
          have := stepR_op_skip (P := Pr) (b := b) (a := a) (k := K) (cs := cs) (w := w) (ops := ops) (i := p.1) (rest := l.map (·.1)) (by simp [ho, hg _ hgd])
          simp only [ho, Option.bind_some] at this
          exact on d (.tup []) undef hd hlt ⟨[], rfl, DenL.nil_iff.2 rfl⟩ this h
      · exact stop h

theorem region_ok (hw : WR B ω c.H c.nx β w) (hcs : CsR ω L β c.cs Fs) {ops : Array Oper} {l : List (Nat × Oper)} {k : List IT} {K : List Item} (hb : FrB ω β c.top (b.atR a (.inRegion ops (l.map (·.1)) :: K))) (hm : c.top.mode = .run) (htm : TmR ω β c.top.tm a.tmps) (hk : ItL β k K) (hl : ∀ p ∈ l, ops[p.1]? = some p.2) :
    Goes Pr B ω f0 cs0 (lone (b.atR a (.inRegion ops (l.map (·.1)) :: K)) (Fs ++ cs0) w) (regA Pr c ops l k) := by
  unfold regA
  have hsz : a.tmps.size = c.top.nt := hb.sz
  split
  · rename_i tm hp
    obtain ⟨a', h1, h2, h3, h4, h5⟩ := purA_ok (b := b) (K := K) (l' := []) (tm' := tm) hw l c.top.tm a (by rw [hsz]; exact hp) hl htm (Fs ++ cs0)
    refine ⟨_, h1.trans (.one stepR_region_end), L, β, w, _, Fs, rfl, hw, ⟨⟨hb.fn, h3.trans hb.sz, ?_, hb.kd, hb.rd⟩, ?_⟩, hcs⟩
    · show DvL ω β c.top.df a'.defers
      rw [h2]; exact hb.df
    · unfold MoR
      simp only [hm]
      exact ⟨rfl, TdR.of hk h4⟩
  · rename_i i o r tm hp
    obtain ⟨a', h1, h2, h3, h4, h5⟩ := purA_ok (b := b) (K := K) (l' := (i, o) :: r) (tm' := tm) hw l c.top.tm a (by rw [hsz]; exact hp) hl htm (Fs ++ cs0)
    refine Goes.head h1 ?_
    have hsz' : a'.tmps.size = c.top.nt := h3.trans hsz
    have ho : ops[i]? = some o := h5 (i, o) (by simp)
    have hr : ∀ p ∈ r, ops[p.1]? = some p.2 := fun p hp => h5 p (by simp [hp])
    have hbeh : Behind ω L β { c.top with tm := tm, todo := .reg ops r :: k } o ops (r.map (·.1)) K a' := by
      intro β' x v hl dv hd
      refine TdR.of ⟨_, K, rfl, ⟨rfl, hr⟩, hk.mono hl.le⟩ ?_
      cases hdst : o.dst with
      | none => exact h4.mono hl.le
      | some d =>
        rw [hdst] at hd
        exact (h4.mono hl.le).put (by rw [hsz']; simpa [dokA, Nat.blt_eq] using hd) dv
    have hb' : FrB ω β { c.top with tm := tm, todo := .reg ops r :: k } (b.atR a' (.inRegion ops (i :: r.map (·.1)) :: K)) := ⟨hb.fn, hsz', by show DvL ω β c.top.df a'.defers; rw [h2]; exact hb.df, hb.kd, hb.rd⟩
    have hg : ∀ t, gdA ops tm o.guard = some t → Region.wanted o (yielded ops a'.tmps) = t := fun t h => gdA_at h a'.tmps (fun d v _ e => h4 d v e)
    split
    · rename_i hgd
      exact oper_ok (fr := { c.top with tm := tm, todo := .reg ops r :: k }) hw hcs rfl rfl hb' hm h4 hbeh ho (hg _ hgd)
    · rename_i hgd
      cases hd : dokA c.top o.dst with
      | false => trivial
      | true =>
        have := stepR_op_skip (P := Pr) (b := b) (a := a') (k := K) (cs := Fs ++ cs0) (w := w) (ops := ops) (i := i) (rest := r.map (·.1)) (by simp [ho, hg _ hgd])
        simp only [ho, Option.bind_some] at this
        exact ⟨_, .one this, next_ok hw hcs (LeA.refl _) (fin_ok hb' hm hbeh (LeA.refl _) (v := .tup []) ⟨[], rfl, DenL.nil_iff.2 rfl⟩ hd)⟩
    · trivial
theorem dr_ok (hw : WR B ω c.H c.nx β w) (hcs : CsR ω L β c.cs Fs) {ops : Array Oper} {ms todo : List Nat} {pend : List (Nat × Nat × V)} {r : List Nat} {k : List IT} {K : List Item} (hb : FrB ω β c.top (b.atR a (.inRegion ops r :: K))) (hm : c.top.mode = .run) (hk : ItL β k K) (hR : Rem ops ms todo (stripP pend) r) (hr : RelDA ω β c.top.tm pend r a.tmps) (hP : PenR L β ops pend r) :
    Goes Pr B ω f0 cs0 (lone (b.atR a (.inRegion ops r :: K)) (Fs ++ cs0) w) (drA Pr c ops ms todo pend k) := by
  unfold drA
  simp only [opAt_eq]
  have hsz : a.tmps.size = c.top.nt := hb.sz
  cases todo with
  | nil =>
    simp only []
    cases hs : stabA Pr c.top.nt ops (penvA pend c.top.tm) c.H pend with
    | false => trivial
    | true =>
      simp only [cond_true]
      obtain ⟨a', β', w', h1, h2, h3, hl, hw', h4⟩ := flush_end (b := b) (K := K) (cs := Fs ++ cs0) r a β w hw hR hr hP (hsz ▸ hs)
      have hw2 := setA_ok (l := pend) hw' (fun p hp => ⟨_, h4.2 p hp (by simp)⟩)
      refine ⟨_, h1, L, β', w', _, Fs, rfl, hw2, ⟨⟨hb.fn, h3.trans hb.sz, ?_, hb.kd, hb.rd.mono hl.le⟩, ?_⟩, hl.cs hcs⟩
      · show DvL ω β' c.top.df a'.defers
        rw [h2]; exact hb.df.mono hl.le
      · unfold MoR
        simp only [hm]
        refine ⟨rfl, TdR.of (hk.mono hl.le) (fun t v e => ?_)⟩
        rcases penvA_get e with ⟨p, hp, rfl, rfl⟩ | ⟨e1, e2⟩
        · exact h4.2 p hp (by simp)
        · exact h4.1 t v e2 e1
  | cons i todo =>
    simp only []
    split
    · trivial
    · rename_i o ho
      cases hp : pendOp o.op with
      | true =>
        simp only [cond_true]
        have pend_ok : ∀ (s : Nat) (v : V) (H' : HV) (nx' : Nat) (β' : List (Option B3)), o.dst = some s → LeA β β' → WR B ω H' nx' β' w → (isNew ops i → ∀ n, blkV v = some n → n = β.length ∧ n < β'.length ∧ bt β' n = none) → L ≤ β.length →
            Goes Pr B ω f0 cs0 (lone (b.atR a (.inRegion ops r :: K)) (Fs ++ cs0) w) (.next { c with top := { c.top with todo := .dr ops ms todo ((i, s, v) :: pend) :: k }, H := H', nx := nx' }) := by
          intro s v H' nx' β' hdst hl hw' hnew hLL
          have hr' := hr.mono hl.le
          refine ⟨_, .refl _ _, L, β', w, _, Fs, rfl, hw', ⟨⟨hb.fn, hb.sz, hb.df.mono hl.le, hb.kd, hb.rd.mono hl.le⟩, ?_⟩, hcs.mono hl⟩
          unfold MoR
          simp only [hm]
          refine ⟨rfl, r, K, rfl, hk.mono hl.le, hR.toPend (v := undef) ho hdst hp, ⟨fun t u e hn => hr'.1 t u e (fun hh => hn (by simp only [List.map_cons]; exact List.mem_cons_of_mem _ hh)), fun p hpm hpr => ?_⟩, fun p hpm hpi n hn => ?_, fun p hpm hpi hpr n hn => ?_, Nat.le_trans hLL hl.len, fun p hpm q hqm hpi hqi n hn hn2 => ?_⟩
          · rcases List.mem_cons.1 hpm with rfl | hpm
            · exact absurd (hR.all i (by simp)) hpr
            · exact hr'.2 p hpm hpr
          · rcases List.mem_cons.1 hpm with rfl | hpm
            · obtain ⟨e1, e2, _⟩ := hnew hpi n hn; exact ⟨by omega, e2⟩
            · exact (hP.mono hl).bnd p hpm hpi n hn
          · rcases List.mem_cons.1 hpm with rfl | hpm
            · exact (hnew hpi n hn).2.2
            · exact (hP.mono hl).non p hpm hpi hpr n hn
          · rcases List.mem_cons.1 hpm with rfl | hpm
            · rcases List.mem_cons.1 hqm with rfl | hqm
              · rfl
              · have := (hnew hpi n hn).1
                have := (hP.bnd q hqm hqi n hn2).2; omega
            · rcases List.mem_cons.1 hqm with rfl | hqm
              · have := (hnew hqi n hn2).1
                have := (hP.bnd p hpm hpi n hn).2; omega
              · exact hP.apart p hpm q hqm hpi hqi n hn hn2
        split
        · trivial
        · rename_i s hdst
          split
          · cases hpu : pureOp o.op with
            | true =>
              simp only [cond_true]
              have hno : ¬ isNew ops i := by rintro ⟨o2, ho2, hp2⟩; rw [ho] at ho2; cases ho2; rw [hpu] at hp2; cases hp2
              split
              · exact pend_ok s _ c.H c.nx β hdst (LeA.refl _) hw (fun h => absurd h hno) hP.low
              · trivial
            | false =>
              simp only [cond_false]
              split
              · rename_i mk nb hv
                refine pend_ok s _ _ _ (β ++ [none]) hdst (LeA.snoc _ _) (hw.keep nb) (fun _ n hn => ?_) hP.low
                have := newA_blk hv hn
                subst this
                exact ⟨hw.len.symm, by simp [hw.len], by rw [← hw.len]; simp [bt]⟩
              · trivial
          · exact pend_ok s _ c.H c.nx β hdst (LeA.refl _) hw (fun _ n hn => by cases hn) hP.low
          · trivial
      | false =>
        simp only [cond_false]
        cases hq : (todo.all fun x => (ms.getD x 0).testBit i) && stabA Pr c.top.nt ops (penvA pend c.top.tm) c.H pend with
        | false => trivial
        | true =>
          simp only [cond_true]
          simp only [Bool.and_eq_true] at hq
          have hc : ∀ x ∈ todo, (ms.getD x 0).testBit i = true := by have := hq.1; rw [List.all_eq_true] at this; exact this
          obtain ⟨a', r', β', w', h1, h2, h3, hl, hw', h4, h5, h6⟩ := flush_eff (b := b) (K := K) (cs := Fs ++ cs0) hc r a β w hw hR hr hP (hsz ▸ hq.2)
          refine Goes.head h1 ?_
          have hj := join_ok h4 h5
          have hsz' : a'.tmps.size = c.top.nt := h3.trans hsz
          have hk' := hk.mono hl.le
          have hcs' := hl.cs hcs
          have hbeh := behind_dr (K := K) (k := k) (fr := c.top) h4 h5 h6 ho hk' hsz'
          have hb' : FrB ω β' { c.top with tm := penvA (pick1 (ms.getD i 0) pend) (dropA (pick2 (ms.getD i 0) pend) c.top.tm), todo := .dr ops ms todo (pick2 (ms.getD i 0) pend) :: k } (b.atR a' (.inRegion ops (i :: r') :: K)) :=
            ⟨hb.fn, hsz', by show DvL ω β' c.top.df a'.defers; rw [h2]; exact hb.df.mono hl.le, hb.kd, hb.rd.mono hl.le⟩
          have hw2 : WR B ω (setA c.H (pick1 (ms.getD i 0) pend)) c.nx β' w' := setA_ok hw' (fun p hp => by
            obtain ⟨h7, h8⟩ := (pick_spec (ms.getD i 0) pend).1 p hp
            refine ⟨_, h5.2 p h7 (fun hin => ?_)⟩
            rcases List.mem_cons.1 hin with e | hin
            · rw [e, h4.ok.irr i (h4.bnd i (by simp))] at h8; cases h8
            · rw [h4.topo.1 _ hin] at h8; cases h8)
          have hg : ∀ t, gdA ops (penvA (pick1 (ms.getD i 0) pend) (dropA (pick2 (ms.getD i 0) pend) c.top.tm)) o.guard = some t → Region.wanted o (yielded ops a'.tmps) = t := fun t h => gdA_at h a'.tmps (fun d v _ e => hj d v e)
          split
          · rename_i hgd
            exact oper_ok (c := { c with H := setA c.H (pick1 (ms.getD i 0) pend) }) (fr := { c.top with tm := penvA (pick1 (ms.getD i 0) pend) (dropA (pick2 (ms.getD i 0) pend) c.top.tm), todo := .dr ops ms todo (pick2 (ms.getD i 0) pend) :: k }) hw2 hcs' rfl rfl hb' hm hj hbeh ho (hg _ hgd)
          · rename_i hgd
            cases hd : dokA c.top o.dst with
            | false => trivial
            | true =>
              have := stepR_op_skip (P := Pr) (b := b) (a := a') (k := K) (cs := Fs ++ cs0) (w := w') (ops := ops) (i := i) (rest := r') (by simp [ho, hg _ hgd])
              simp only [ho, Option.bind_some] at this
              exact ⟨_, .one this, next_ok (c := c) hw2 hcs' (LeA.refl _) (fin_ok hb' hm hbeh (LeA.refl _) (v := .tup []) ⟨[], rfl, DenL.nil_iff.2 rfl⟩ hd)⟩
          · trivial

theorem range_ok (hw : WR B ω c.H c.nx β w) (hcs : CsR ω L β c.cs Fs) {f : Operand} {params : Array Tmp} {asg body : Code} {k : List IT} {K : List Item} (hb : FrB ω β c.top (b.atR a (.code (.rangeFunc f params asg body) :: K))) (hm : c.top.mode = .run) (htm : TmR ω β c.top.tm a.tmps) (hk : ItL β k K) :
    Goes Pr B ω f0 cs0 (lone (b.atR a (.code (.rangeFunc f params asg body) :: K)) (Fs ++ cs0) w) (rangeFA Pr c f params asg body k) := by
  unfold rangeFA
  split
  · trivial
  · rename_i hrnd
    have hro : b.roundOf = none := by have := hb.rd; rw [hrnd] at this; exact this
    split
    · rename_i g fa cp hf
      split
      · rename_i t ht
        have dfv := opA_ok htm f _ hf
        simp only [Den] at dfv
        obtain ⟨va, vc, hfe, da, dc⟩ := dfv
        obtain ⟨h1, h2, h3, h4⟩ := enterA_ok ht
        obtain ⟨n0, hn0⟩ : ∃ n0, n0 = w.heap.size := ⟨_, rfl⟩
        have w1 : WR B ω (c.H.put c.nx (some (.dfr (some [])))) (c.nx + 1) (β ++ [some (w.heap.size, 0, 0)]) (w.alloc (.deferred (some []))) := hw.fresh ⟨[], rfl, rfl⟩
        have hsz1 : (w.alloc (.deferred (some []))).heap.size = w.heap.size + 1 := by simp
        have l1 : bt (β ++ [some (w.heap.size, 0, 0)]) c.nx = some (w.heap.size, 0, 0) := by rw [← hw.len]; simp
        have w2 := w1.fresh (n := 0) (o := .loop .ready none c.top.fn c.top.nt c.top.tm params.toList asg body c.nx) (ob := .loop { state := .ready, pending := none, fn := c.top.fn, tmps := a.tmps, params := params, assign := asg, body := body, defers := w.heap.size })
          ⟨a.tmps, w.heap.size, 0, 0, Le.snoc _ _ _ _ l1, by simp, hb.sz, htm.mono ((Le.snoc _ _).trans (Le.snoc _ _))⟩
        have l2 : bt (β ++ [some (w.heap.size, 0, 0)] ++ [some ((w.alloc (.deferred (some []))).heap.size, 0, 0)]) (c.nx + 1) = some (w.heap.size + 1, 0, 0) := by
          rw [hsz1, ← w1.len]; exact bt_last _ _
        have hleA : LeA β (β ++ [some (w.heap.size, 0, 0)] ++ [some ((w.alloc (.deferred (some []))).heap.size, 0, 0)]) := (LeA.snoc _ _).trans (LeA.snoc _ _)
        have hle := hleA.le
        have henter : (Instr.enterLoop b.fn a.tmps params asg body b.roundOf).run Pr w = .ok (w.heap.size + 1, [{ target := .collected w.heap.size, args := #[] }]) ((w.alloc (.deferred (some []))).alloc (.loop { state := .ready, pending := none, fn := c.top.fn, tmps := a.tmps, params := params, assign := asg, body := body, defers := w.heap.size })) := by
          have hfn : b.fn = c.top.fn := hb.fn
          simp [Instr.enterLoop, hro, hfn]
        have hinv : (invoke (.fn (.func g) (List.toArray vc)) (List.toArray va ++ #[.func (.yield (w.heap.size + 1)) #[] #[]])).run Pr ((w.alloc (.deferred (some []))).alloc (.loop { state := .ready, pending := none, fn := c.top.fn, tmps := a.tmps, params := params, assign := asg, body := body, defers := w.heap.size })) =
            .ok (.enter g (List.toArray (va ++ [.func (.yield (w.heap.size + 1)) #[] #[]] ++ vc))) ((w.alloc (.deferred (some []))).alloc (.loop { state := .ready, pending := none, fn := c.top.fn, tmps := a.tmps, params := params, assign := asg, body := body, defers := w.heap.size })) := by
          have e : (List.toArray va ++ #[.func (.yield (w.heap.size + 1)) #[] #[]] ++ List.toArray vc) = List.toArray (va ++ [.func (.yield (w.heap.size + 1)) #[] #[]] ++ vc) := by simp
          simp only [invoke, e, h1]
        have hst := stepR_rangeFunc (k := K) (cs := Fs ++ cs0) henter (d := { target := .fn (.func g) (List.toArray vc), args := List.toArray va ++ #[.func (.yield (w.heap.size + 1)) #[] #[]] }) (g := f) (by
          have hfe' : a.eval f = .func (.func g) (List.toArray va) (List.toArray vc) := hfe
          have e : (#[Operand.const (.func (.yield (w.heap.size + 1)) #[] #[])] : Array Operand).map a.eval = #[.func (.yield (w.heap.size + 1)) #[] #[]] := by simp [Act.eval]
          simp only [resolve, rangeCall, hfe', e, Deferred.ofValue, Sem.run_pure]) hinv
        refine ⟨_, .one hst, (β ++ [some (w.heap.size, 0, 0)] ++ [some ((w.alloc (.deferred (some []))).heap.size, 0, 0)]).length, _, _, _, b.atR { a with defers := [{ target := .collected w.heap.size, args := #[] }] ++ a.defers } (.inRangeFunc (w.heap.size + 1) :: K) :: Fs, rfl, w2, h4 (((DenL.mono hle _ da).append (DenL.cons_iff.2 ⟨.func (.yield (w.heap.size + 1)) #[] #[], [], rfl, (by simp only [Den]; exact ⟨w.heap.size + 1, 0, 0, l2, rfl⟩), DenL.nil_iff.2 rfl⟩)).append (DenL.mono hle _ dc)), _, Fs, _, L, rfl, Nat.le_refl _, LeA.refl _, ⟨fun β' x v hlA dv hd => ?_, fun β' ch l hlA hch => ?_⟩, hcs.mono hleA⟩
        · rw [finish_atR_inRangeFunc]
          have hl := hlA.le
          have hb2 := hb.mono (hle.trans hl)
          refine ⟨⟨hb2.fn, hb2.sz, ⟨_, _, rfl, ⟨w.heap.size, 0, 0, hl _ _ (Le.snoc _ _ _ _ l1), rfl⟩, hb2.df⟩, hb2.kd, hb2.rd⟩, ?_⟩
          unfold MoR
          simp only [putA, hm]
          exact ⟨rfl, ⟨_, K, rfl, ⟨w.heap.size + 1, 0, 0, hl _ _ l2, rfl⟩, hk.mono (hle.trans hl)⟩, htm.mono (hle.trans hl)⟩
        · rw [Frame.raise_atR]
          have hl := hlA.le
          have hb2 := hb.mono (hle.trans hl)
          exact ⟨⟨hb2.fn, hb2.sz, ⟨_, _, rfl, ⟨w.heap.size, 0, 0, hl _ _ (Le.snoc _ _ _ _ l1), rfl⟩, hb2.df⟩, hb2.kd, hb2.rd⟩, ⟨l, rfl, hch⟩, htm.mono (hle.trans hl)⟩
      · trivial
    · trivial
end step

/-! ### what a function yields -/
theorem resA_ok (hw : WR B ω H nx β w) {tm : Tr V} {tmps : Array Value} (htm : TmR ω β tm tmps) :
    ∀ {l : List ResultVar} {vs : List V}, optL (resA Pr H tm) l = some vs → ∃ xs, (∀ (g : ResultVar → Sem Value), (∀ t, g (.tmp t) = pure (tmps.getD t undef)) → (∀ a t, g (.cell a t) = (do loadVar t (← asAddr (tmps.getD a undef)))) → (l.mapM g).run Pr w = .ok xs w) ∧ DenL ω β vs xs
  | [], vs, h => by simp [optL] at h; subst h; exact ⟨[], fun g _ _ => by simp, DenL.nil_iff.2 rfl⟩
  | x :: l, vs, h => by
    simp only [optL] at h
    split at h
    · rename_i y r h1 h2
      simp at h; subst h
      obtain ⟨xs, h3, h4⟩ := resA_ok hw htm h2
      cases x with
      | tmp t =>
        have := htm t y h1
        exact ⟨tmps.getD t undef :: xs, fun g g1 g2 => by simp only [List.mapM_cons, Sem.run_bind, g1, Sem.run_pure, Result.andThen_ok, h3 g g1 g2], DenL.cons_iff.2 ⟨_, _, rfl, this, h4⟩⟩
      | cell a t =>
        simp only [resA] at h1
        split at h1
        · rename_i i o ha
          have := htm a _ ha
          simp only [Den] at this; obtain ⟨b, f, n, hb, he⟩ := this
          obtain ⟨z, h5, h6⟩ := loadV_ok (Pr := Pr) hw h1 hb
          exact ⟨z :: xs, fun g g1 g2 => by simp only [List.mapM_cons, Sem.run_bind, g2, he, asAddr_some, Sem.run_pure, Result.andThen_ok, h5, h3 g g1 g2], DenL.cons_iff.2 ⟨_, _, rfl, h6, h4⟩⟩
        · cases h1
    · cases h
theorem results_ok (hw : WR B ω H nx β w) {tm : Tr V} {tmps : Array Value} (htm : TmR ω β tm tmps) {fn : Func} {vs : List V} (h : optL (resA Pr H tm) fn.results.toList = some vs) : ∃ x, (results fn tmps).run Pr w = .ok x w ∧ ∀ v, (vs = [v] ∨ (v = .tup vs ∧ ∀ u, vs ≠ [u])) → Den ω β v x := by
  obtain ⟨xs, h1, h2⟩ := resA_ok hw htm h
  have hlen := h2.length
  have hrun : (results fn tmps).run Pr w = .ok (packV xs) w := by
    unfold Go.results
    rw [Array.mapM_eq_mapM_toList]
    simp only [Sem.run_bind, Sem.run_map]
    rw [h1 _ (fun _ => rfl) (fun _ _ => rfl)]
    simp only [Result.andThen_ok, Sem.run_pure]
    match xs with
    | [] => rfl
    | [v] => rfl
    | _ :: _ :: _ => rfl
  refine ⟨packV xs, hrun, ?_⟩
  rintro v (rfl | ⟨rfl, hv⟩)
  · obtain ⟨y, ys, rfl, d1, d2⟩ := DenL.cons_iff.1 h2
    rw [DenL.nil_iff.1 d2]; exact d1
  · match xs, vs with
    | [], [] => exact ⟨[], rfl, h2⟩
    | [x], [v] => exact absurd rfl (hv v)
    | x :: y :: l, v :: u :: m => exact ⟨x :: y :: l, rfl, h2⟩
    | [], _ :: _ => simp at hlen
    | _ :: _, [] => simp at hlen
    | [_], _ :: _ :: _ => simp at hlen
    | _ :: _ :: _, [_] => simp at hlen

section leave
variable {cs0 Fs : List Frame} {c : Cg} {F : Frame}

theorem ret_ok (hw : WR B ω c.H c.nx β w) (hcs : CsR ω L β c.cs Fs) (hb : FrB ω β c.top F) (hmode : F.mode = .returning) (hdf : F.defers = []) {fn : Func} (hfn : Pr.funcs[F.fn]? = some fn) {x : Value} (hr : (results fn F.tmps).run Pr w = .ok x w) {v : V} (dv : Den ω β v x) :
    Goes Pr B ω c.top.fn cs0 (lone F (Fs ++ cs0) w) (retA c v) := by
  have hk := hb.kd
  unfold retA
  split
  · rename_i hc
    rw [hc] at hcs
    have : Fs = [] := hcs
    subst this
    cases hd : c.top.defd with
    | true => trivial
    | false =>
      rw [hd] at hk
      exact ⟨β, w, F, x, c.H, c.nx, .refl _ _, hb.fn, ⟨hmode, hdf, hk, fn, hfn, hr⟩, dv, hw⟩
  · rename_i f dst r hc
    rw [hc] at hcs
    obtain ⟨G, Gs, β0, L0, rfl, hn0, hl0, hcall, hcs'⟩ := hcs
    cases hd : c.top.defd with
    | true => trivial
    | false =>
      rw [hd] at hk
      simp only [cond_false]
      cases hq : dokA f dst with
      | false => trivial
      | true => exact ⟨_, .one (step_leave_returned ⟨hmode, hdf, hk, fn, hfn, hr⟩), L0, β, w, _, Gs, rfl, hw, hcall.1 β x v hl0 dv hq, hcs'.mono hl0⟩
  · rename_i f r hc
    rw [hc] at hcs
    obtain ⟨G, Gs, β0, L0, rfl, hn0, hl0, ⟨hfm, hfr0⟩, hcs0⟩ := hcs
    have hfr := hfr0.mono hl0
    have hcs' := hcs0.mono hl0
    cases hd : c.top.defd with
    | false => trivial
    | true =>
      rw [hd] at hk
      simp only [cond_true]
      have hst := step_going_returned (c := G) (cs := Gs ++ cs0) hk (P := Pr) (w := w) (v := x) ⟨hmode, hdf, fn, hfn, hr⟩
      have hmo := hfr.2
      unfold MoR at hmo
      split
      · rename_i u older hm
        rw [hm] at hmo
        obtain ⟨⟨l, hl, y, s, rfl, dy, hs⟩, htm⟩ := hmo
        refine ⟨_, .one hst, L0, β, w, _, Gs, rfl, hw, ⟨⟨hfr.1.fn, hfr.1.sz, hfr.1.df, hfr.1.kd, hfr.1.rd⟩, ?_⟩, hcs'⟩
        exact ⟨by show settle G.mode = _; rw [hl]; simp [settle, hs.noexit], htm⟩
      · rename_i hno
        have hset : settle G.mode = G.mode := by
          cases hm : f.mode with
          | run => exact absurd hm hfm
          | ret => rw [hm] at hmo; rw [hmo.1]; rfl
          | pan ch =>
            rw [hm] at hmo
            obtain ⟨⟨l, hl, hch⟩, _⟩ := hmo
            rw [hl]
            cases ch with
            | nil => have : l = [] := hch; subst this; rfl
            | cons p ch =>
              obtain ⟨u, q⟩ := p
              obtain ⟨y, s, rfl, _, _⟩ := hch
              cases q with
              | true => exact absurd hm (hno _ _)
              | false => rfl
        refine ⟨_, .one hst, L0, β, w, _, Gs, rfl, hw, ?_, hcs'⟩
        rw [hset]; exact hfr

theorem unw_ok (hw : WR B ω c.H c.nx β w) (hcs : CsR ω L β c.cs Fs) (hf : FrR ω L β c.top F) (hm : c.top.mode ≠ .run) : Goes Pr B ω c.top.fn cs0 (lone F (Fs ++ cs0) w) (unwA Pr c) := by
  unfold unwA
  obtain ⟨hb, hmo⟩ := hf
  have hFm : F.mode ≠ .run := by
    unfold MoR at hmo
    split at hmo
    · rename_i e; exact absurd e hm
    · rw [hmo.1]; simp
    · obtain ⟨⟨l, hl, _⟩, _⟩ := hmo; rw [hl]; simp
  have hdf := hb.df
  split
  · rename_i i ds hd
    rw [hd] at hdf
    obtain ⟨d, rs, hD, ⟨mb, mf, mn, hmb, rfl⟩, hds⟩ := hdf
    split
    · rename_i calls hi
      obtain ⟨ob, hob, cl, rfl, hcl⟩ := hw.at hi hmb
      have htk : (Instr.takeDeferred mb).run Pr w = .ok cl { w with heap := w.heap.setIfInBounds mb (.deferred none) } := by
        have h1 : (getObj mb).run Pr w = .ok (.deferred (some cl)) w := run_getObj' hob (by simp)
        simp only [Instr.takeDeferred, Sem.run_bind, h1, Result.andThen_ok, set_obj hob (by simp), Sem.run_pure]
      have hst2 := step_collected (cs := Fs ++ cs0) hFm hD rfl htk
      refine ⟨_, .one hst2, L, β, _, _, Fs, rfl, hw.setObj hi hmb (o' := .dfr none) rfl, ⟨⟨hb.fn, hb.sz, hcl.append hds, hb.kd, hb.rd⟩, ?_⟩, hcs⟩
      unfold MoR at hmo ⊢
      cases hmm : c.top.mode with
      | run => exact absurd hmm hm
      | ret => rw [hmm] at hmo; exact hmo
      | pan ch => rw [hmm] at hmo; exact hmo
    · trivial
  · rename_i f cap args ds hd
    rw [hd] at hdf
    obtain ⟨d, rs, hD, ⟨vc, va, rfl, dc, da⟩, hds⟩ := hdf
    split
    · rename_i t ht
      obtain ⟨h1, h2, h3, h4⟩ := enterA_ok ht
      have hinv : (invoke (.fn (.func f) (List.toArray vc)) (List.toArray va)).run Pr w = .ok (.enter f (List.toArray (va ++ vc))) w := by
        have e : List.toArray va ++ List.toArray vc = List.toArray (va ++ vc) := by simp
        simp only [invoke, e, h1]
      have hst2 := step_defer (cs := Fs ++ cs0) hFm hD rfl hinv
      refine ⟨_, .one hst2, β.length, β, w, _, { F with defers := rs } :: Fs, rfl, hw, h4 (da.append dc), _, Fs, β, L, rfl, Nat.le_refl _, LeA.refl _, ⟨hm, ⟨hb.fn, hb.sz, hds, hb.kd, hb.rd⟩, ?_⟩, hcs⟩
      unfold MoR at hmo ⊢
      cases hmm : c.top.mode with
      | run => exact absurd hmm hm
      | ret => rw [hmm] at hmo; simp only [hmm]; exact hmo
      | pan ch => rw [hmm] at hmo; simp only [hmm]; exact hmo
    · trivial
  · rename_i hd
    rw [hd] at hdf
    have hDn : F.defers = [] := hdf
    split
    · rename_i hmm
      unfold MoR at hmo; rw [hmm] at hmo
      split
      · rename_i fn hfn
        have hfn' : Pr.funcs[F.fn]? = some fn := by rw [hb.fn]; exact hfn
        split
        · rename_i v hv
          obtain ⟨x, hr, hx⟩ := results_ok hw hmo.2 hv
          exact ret_ok hw hcs hb hmo.1 hDn hfn' hr (hx v (.inl rfl))
        · rename_i vs hne hv
          obtain ⟨x, hr, hx⟩ := results_ok hw hmo.2 hv
          exact ret_ok hw hcs hb hmo.1 hDn hfn' hr (hx (.tup vs) (.inr ⟨rfl, fun u e => hne u (by rw [← e])⟩))
        · trivial
      · trivial
    · rename_i ch hmm
      unfold MoR at hmo; rw [hmm] at hmo
      obtain ⟨⟨l, hl, hch⟩, _⟩ := hmo
      split
      · rename_i f dst r fn hc hfn
        rw [hc] at hcs
        obtain ⟨G, Gs, β0, L0, rfl, hn0, hl0, hcall, hcs'⟩ := hcs
        have hfn' : Pr.funcs[F.fn]? = some fn := by rw [hb.fn]; exact hfn
        exact ⟨_, .one (step_leave_panicked ⟨hl, hDn, fn, hfn'⟩), L0, β, w, _, Gs, rfl, hw, hcall.2 β ch l hl0 hch, hcs'.mono hl0⟩
      · trivial
    · trivial
end leave

end Go.Proofs.YtbgkljpbemehiaaGreat.Sx
