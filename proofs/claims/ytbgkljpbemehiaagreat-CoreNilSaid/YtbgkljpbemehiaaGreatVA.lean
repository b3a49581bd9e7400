/- A run with known values: where it is well, the call returns what is told. No condition. -/
import Derived.Test.YtbgkljpbemehiaaGreatV9
set_option maxHeartbeats 2000000
namespace Go.Proofs.YtbgkljpbemehiaaGreat.Sx

variable {ω : List Value} {β β' : List (Option B3)} {B : World} {H : HV} {nx : Nat} {w : World} {Pr : Program} {f0 L : Nat}

theorem code_ok {c : Cg} {x : Code} {k : List IT} {cs0 Fs : List Frame} {b : Frame} {a : Act} {K : List Item} (hmix : Pr.follows .mixedOrders = true) (hw : WR B ω c.H c.nx β w) (hcs : CsR ω L β c.cs Fs) (hb : FrB ω β c.top (b.atR a (.code x :: K))) (hm : c.top.mode = .run) (htm : TmR ω β c.top.tm a.tmps) (hk : ItL β k K) :
    Goes Pr B ω f0 cs0 (lone (b.atR a (.code x :: K)) (Fs ++ cs0) w) (codeA Pr c x k) := by
  unfold codeA
  cases x with
  | skip => exact go_ok hw hcs hb hm stepR_skip (TdR.of hk htm)
  | label l => exact go_ok hw hcs hb hm stepR_label (TdR.of hk htm)
  | seq x y => exact go_ok hw hcs hb hm stepR_seq (TdR.of ⟨_, _, rfl, rfl, _, _, rfl, rfl, hk⟩ htm)
  | cond q x y =>
    simp only []
    split
    · rename_i t ht
      have := opA_ok htm q _ ht
      simp only [Den] at this
      exact go_ok hw hcs hb hm (stepR_cond this) (TdR.of ⟨_, _, rfl, by rw [cond_ite]; rfl, hk⟩ htm)
    · trivial
  | block id x => exact go_ok hw hcs hb hm stepR_block (TdR.of ⟨_, _, rfl, rfl, _, _, rfl, rfl, hk⟩ htm)
  | loop x => exact go_ok hw hcs hb hm stepR_loop (TdR.of ⟨_, _, rfl, rfl, _, _, rfl, rfl, hk⟩ htm)
  | scope x => exact go_ok hw hcs hb hm (step_lone_go (by simp [stepG, stepG.exec, Frame.atR])) (TdR.of ⟨_, _, rfl, rfl, _, _, rfl, rfl, hk⟩ htm)
  | exit id =>
    have := exitA_ok (id := id) hk
    simp only []
    split
    · rename_i k' hk'
      rw [hk'] at this
      obtain ⟨K', h1, h2⟩ := this
      exact go_ok hw hcs hb hm (stepR_exit h1) (TdR.of h2 htm)
    · rename_i hk'
      rw [hk'] at this
      exact leave_ok hw hcs hb htm (.inr (.inr ⟨id, K, rfl, rfl, this⟩))
  | ret => exact leave_ok hw hcs hb htm (.inr (.inl ⟨rfl, K, rfl⟩))
  | region id ops draw =>
    cases draw with
    | false =>
      have hz : ∀ (l : List Oper) (i : Nat), (zipI l i).map (·.1) = List.range' i l.length ∧ ∀ p ∈ zipI l i, i ≤ p.1 ∧ l[p.1 - i]? = some p.2 := by
        intro l
        induction l with
        | nil => intro i; simp [zipI]
        | cons o l ih =>
          intro i
          obtain ⟨h1, h2⟩ := ih (i + 1)
          refine ⟨by simp only [zipI, List.map_cons, Nat.succ_eq_add_one, h1, List.length_cons, List.range'_succ], fun p hp => ?_⟩
          rcases List.mem_cons.1 hp with rfl | hp
          · simp
          · obtain ⟨h3, h4⟩ := h2 p hp
            refine ⟨by omega, ?_⟩
            rw [show p.1 - i = (p.1 - (i + 1)) + 1 by omega]; simpa using h4
      obtain ⟨h1, h2⟩ := hz ops.toList 0
      have e : List.range ops.size = (zipI ops.toList 0).map (·.1) := by rw [h1, List.range_eq_range']; simp
      have hst := stepR_region (P := Pr) (b := b) (a := a) (k := K) (cs := Fs ++ cs0) (w := w) (ops := ops) (id := id)
      rw [e] at hst
      exact go_ok hw hcs hb hm hst (TdR.of ⟨_, _, rfl, ⟨rfl, fun p hp => by have := (h2 p hp).2; simpa using this⟩, hk⟩ htm)
    | true =>
      simp only []
      cases hd : drOk ops (masksA ops.toList) (planA ops.toList (masksA ops.toList) ops.size 0) with
      | false => trivial
      | true =>
        have hst := stepR_region_draw (P := Pr) (b := b) (a := a) (k := K) (cs := Fs ++ cs0) (w := w) (ops := ops) (id := id)
        rw [hmix] at hst
        refine ⟨_, .one hst, min L β.length, β, { w with drawn := w.drawn + 1 }, _, Fs, rfl, hw.drawn _, ⟨⟨hb.fn, hb.sz, hb.df, hb.kd, hb.rd⟩, ?_⟩, hcs.low⟩
        unfold MoR
        simp only [hm]
        exact ⟨rfl, _, K, rfl, hk, Rem.start hd _, ⟨fun t v e _ => htm t v e, fun p hp => by cases hp⟩, ⟨fun p hp => (by cases hp), fun p hp => (by cases hp), Nat.min_le_right _ _, fun p hp => (by cases hp)⟩⟩
  | rangeFunc f params asg body => exact range_ok hw hcs hb hm htm hk
  | goto l => trivial
  | refuse y => trivial

theorem stepA_ok {c : Cg} {m : Machine} {cs0 : List Frame} (hmix : Pr.follows .mixedOrders = true) (h : CR B ω cs0 c m) : Goes Pr B ω c.top.fn cs0 m (stepA Pr c) := by
  obtain ⟨L, β, w, F, Fs, rfl, hw, hf, hcs⟩ := h
  cases hm : c.top.mode with
  | ret => unfold stepA; rw [hm]; exact unw_ok hw hcs hf (by rw [hm]; simp)
  | pan ch => unfold stepA; rw [hm]; exact unw_ok hw hcs hf (by rw [hm]; simp)
  | run =>
    obtain ⟨hb, hmo⟩ := hf
    unfold MoR at hmo
    rw [hm] at hmo
    obtain ⟨hFm, htd⟩ := hmo
    obtain ⟨a, ha⟩ : ∃ a : Act, a = { tmps := F.tmps, defers := F.defers } := ⟨_, rfl⟩
    obtain ⟨its, hits⟩ : ∃ its, its = F.todo := ⟨_, rfl⟩
    have hF : F = F.atR a its := by rw [ha, hits]; exact frame_at hFm
    obtain ⟨b, hbb⟩ : ∃ b, b = F := ⟨_, rfl⟩
    have hat : F.tmps = a.tmps := by rw [ha]
    rw [← hits, hat] at htd
    rw [← hbb] at hF
    have hF2 : F = b.atR a its := by rw [← hF, hbb]
    rw [hF2] at hb ⊢
    clear hF hF2 hat ha hits hFm
    unfold stepA
    rw [hm]
    show Goes Pr B ω c.top.fn cs0 _ (runA Pr c)
    unfold runA
    cases htodo : c.top.todo with
    | nil =>
      rw [htodo] at htd
      obtain ⟨h1, h2⟩ := htd.plain (by simp)
      have : its = [] := h1
      subst this
      exact leave_ok hw hcs hb h2 (.inl ⟨rfl, rfl⟩)
    | cons x k =>
      rw [htodo] at htd
      cases x with
      | dr ops ms todo pend =>
        obtain ⟨r, K, rfl, hk, hR, hr, hP⟩ := htd
        exact dr_ok hw hcs hb hm hk hR hr hP
      | code x =>
        obtain ⟨⟨y, K, rfl, hx, hk⟩, htm⟩ := htd.plain (by simp)
        have hx' : y = .code x := hx
        subst hx'
        exact code_ok hmix hw hcs hb hm htm hk
      | inBlock id =>
        obtain ⟨⟨y, K, rfl, hx, hk⟩, htm⟩ := htd.plain (by simp)
        have hx' : y = .inBlock id := hx
        subst hx'
        exact go_ok hw hcs hb hm stepR_inBlock (TdR.of hk htm)
      | inScope x =>
        obtain ⟨⟨y, K, rfl, hx, hk⟩, htm⟩ := htd.plain (by simp)
        have hx' : y = .inScope x := hx
        subst hx'
        exact go_ok hw hcs hb hm (step_lone_go (by simp [stepG, stepG.exec, Frame.atR])) (TdR.of hk htm)
      | inLoop x =>
        obtain ⟨⟨y, K, rfl, hx, hk⟩, htm⟩ := htd.plain (by simp)
        have hx' : y = .inLoop x := hx
        subst hx'
        exact go_ok hw hcs hb hm stepR_inLoop (TdR.of ⟨_, _, rfl, rfl, _, _, rfl, rfl, hk⟩ htm)
      | reg ops l =>
        obtain ⟨⟨y, K, rfl, ⟨hx', hl⟩, hk⟩, htm⟩ := htd.plain (by simp)
        subst hx'
        exact region_ok hw hcs hb hm htm hk hl
      | begR =>
        obtain ⟨⟨y, K, rfl, hx, hk⟩, htm⟩ := htd.plain (by simp)
        have hx' : y = .beginRound := hx
        subst hx'
        show Goes Pr B ω c.top.fn cs0 _ (begA c k)
        unfold begA
        cases hrn : c.top.rnd with
        | none => trivial
        | some l =>
          have hrd := hb.rd
          rw [hrn] at hrd
          obtain ⟨lb, lf, ln, hlb, hro⟩ := hrd
          simp only []
          split
          · rename_i pend fn nt tm params asg body df hl
            obtain ⟨ob, hob, tmps, db, df', dn, hdf, rfl, hsz, htl⟩ := hw.at hl hlb
            have h1 : (getObj lb).run Pr w = .ok _ w := run_getObj' hob (by simp)
            have hbr : (Instr.beginRound lb).run Pr w = .ok () { w with heap := w.heap.setIfInBounds lb (.loop { ({ state := .ready, pending := pend, fn := fn, tmps := tmps, params := params.toArray, assign := asg, body := body, defers := db } : Loop) with state := .busy }) } := by
              simp only [Instr.beginRound, Instr.getLoop, Sem.run_bind, h1, Result.andThen_ok, Sem.run_pure, set_obj hob (by simp)]
            refine ⟨_, .one (stepR_beginRound hro hbr), L, β, _, _, Fs, rfl, hw.setObj (o' := .loop .busy pend fn nt tm params asg body df) hl hlb ⟨tmps, db, df', dn, hdf, rfl, hsz, htl⟩, ⟨⟨hb.fn, hb.sz, hb.df, hb.kd, hrn ▸ hb.rd⟩, ?_⟩, hcs⟩
            unfold MoR
            simp only [hm]
            exact ⟨rfl, TdR.of hk htm⟩
          · trivial
      | endRF l =>
        obtain ⟨⟨y, K, rfl, ⟨lb, lf, ln, hlb, hx'⟩, hk⟩, htm⟩ := htd.plain (by simp)
        subst hx'
        show Goes Pr B ω c.top.fn cs0 _ (endA c l k)
        unfold endA
        split
        · rename_i st pend fn nt tm params asg body df hl
          split
          · trivial
          · rename_i hne
            obtain ⟨ob, hob, tmps, db, df', dn, hdf, rfl, hsz, htl⟩ := hw.at hl hlb
            have h1 : (getObj lb).run Pr w = .ok _ w := run_getObj' hob (by simp)
            have hbr : (Instr.endLoop lb).run Pr w = .ok pend { w with heap := w.heap.setIfInBounds lb (.loop { ({ state := st, pending := pend, fn := fn, tmps := tmps, params := params.toArray, assign := asg, body := body, defers := db } : Loop) with state := .exhausted }) } := by
              have hst : (st == LoopState.busy) = false := by cases st <;> first | rfl | exact absurd rfl hne
              simp only [Instr.endLoop, Instr.getLoop, Sem.run_bind, h1, Result.andThen_ok, Sem.run_pure, hst, Bool.false_eq_true, if_false, set_obj hob (by simp)]
            refine ⟨_, .one (stepR_endRangeFunc hbr), L, β, _, _, Fs, rfl, hw.setObj (o' := .loop .exhausted pend fn nt tm params asg body df) hl hlb ⟨tmps, db, df', dn, hdf, rfl, hsz, htl⟩, ⟨⟨hb.fn, hb.sz, hb.df, hb.kd, hb.rd⟩, ?_⟩, hcs⟩
            unfold MoR
            simp only [hm]
            cases pend with
            | none => exact ⟨rfl, TdR.of hk htm⟩
            | some j => exact ⟨rfl, TdR.of ⟨_, _, rfl, rfl, hk⟩ htm⟩
        · trivial

/-- what comes of a configuration -/
def Well (Pr : Program) (B : World) (ω : List Value) (good : V → Bool) (f0 : Nat) (cs0 : List Frame) (c : Cg) : Prop :=
  ∀ m, CR B ω cs0 c m → ∃ β w F x H nx v, Steps Pr m (lone F cs0 w) ∧ F.fn = f0 ∧ F.leaving Pr w (.returned x) ∧ good v = true ∧ Den ω β v x ∧ WR B ω H nx β w
theorem step1_ok {good : V → Bool} {cs0 : List Frame} (hmix : Pr.follows .mixedOrders = true) {l l' : List Cg} (h : step1 Pr good f0 l = .on l') (hl : ∀ c ∈ l', Well Pr B ω good f0 cs0 c) : ∀ c ∈ l, Well Pr B ω good f0 cs0 c := by
  cases l with
  | nil => intro c hc; cases hc
  | cons c l =>
    simp only [step1] at h
    have tail : (∀ x ∈ l, x ∈ l') → ∀ x ∈ l, Well Pr B ω good f0 cs0 x := fun k x hx => hl x (k x hx)
    split at h
    · rename_i c' hs
      rw [flatK_eq] at h
      simp only [Ans.on.injEq] at h; subst h
      intro x hx
      rcases List.mem_cons.1 hx with rfl | hx
      · intro m hm
        have := stepA_ok hmix hm
        rw [hs] at this
        obtain ⟨m', h1, h2⟩ := this
        obtain ⟨β, w, F, y, H, nx, v, a, b⟩ := hl c' (by simp) m' h2
        exact ⟨β, w, F, y, H, nx, v, h1.trans a, b⟩
      · exact hl x (by simp [hx])
    · rename_i cs hs
      simp only [Ans.on.injEq] at h; subst h
      intro x hx
      rcases List.mem_cons.1 hx with rfl | hx
      · intro m hm
        have := stepA_ok hmix hm
        rw [hs] at this
        obtain ⟨c', hc', m', h1, h2⟩ := this
        obtain ⟨β, w, F, y, H, nx, v, a, b⟩ := hl c' (by simp [hc']) m' h2
        exact ⟨β, w, F, y, H, nx, v, h1.trans a, b⟩
      · exact hl x (by simp [hx])
    · rename_i v hs
      cases hg : good v && Nat.beq c.top.fn f0 with
      | false => rw [hg] at h; cases h
      | true =>
        rw [hg] at h; simp only [cond_true, Ans.on.injEq] at h; subst h
        simp only [Bool.and_eq_true] at hg
        intro x hx
        rcases List.mem_cons.1 hx with rfl | hx
        · intro m hm
          have := stepA_ok hmix hm
          rw [hs] at this
          obtain ⟨β, w, F, y, H, nx, a, b, d, e, f⟩ := this
          exact ⟨β, w, F, y, H, nx, v, a, b.trans (Nat.eq_of_beq_eq_true hg.2), d, hg.1, e, f⟩
        · exact hl x hx
    · cases h
theorem steps_ok {good : V → Bool} {cs0 : List Frame} (hmix : Pr.follows .mixedOrders = true) : ∀ (k : Nat) {l l' : List Cg}, steps Pr good f0 k l = .on l' → (∀ c ∈ l', Well Pr B ω good f0 cs0 c) → ∀ c ∈ l, Well Pr B ω good f0 cs0 c
  | 0, l, l', h, hl => step1_ok hmix h hl
  | k + 1, l, l', h, hl => by
    simp only [steps] at h
    split at h
    · rename_i l1 h1
      exact steps_ok hmix k h1 (steps_ok hmix k h hl)
    · rename_i hn
      exact absurd h (hn _)

/-- what is as it was -/
structure Kept0 (w w' : World) : Prop where
  os : w'.os = w.os
  tape : w'.tape = w.tape
  output : w'.output = w.output
  size : w.heap.size ≤ w'.heap.size
  old : ∀ b, b < w.heap.size → w'.heap[b]? = w.heap[b]?
/-- A RUN THAT IS WELL: the call returns a value that is good, and all blocks that were there are as they were. -/
theorem goodA_ok {good : V → Bool} {k : Nat} {f : FuncId} {args : List V} {vs : List Value} (hmix : Pr.follows .mixedOrders = true) (h : goodA Pr good k f args = true) (w : World) (hargs : DenL ω [] args vs) :
    Calls Pr f (List.toArray vs) w fun e w' => ∃ x v β, e = .returned x ∧ good v = true ∧ Den ω β v x ∧ Kept0 w w' := by
  intro cs
  unfold goodA startA at h
  split at h
  · rename_i c hc
    simp only [Option.map_eq_some_iff] at hc
    obtain ⟨t, ht, rfl⟩ := hc
    obtain ⟨h1, h2, h3, h4⟩ := enterA_ok ht
    split at h
    · rename_i hs
      have hwell := steps_ok (B := w) (ω := ω) (cs0 := cs) hmix k hs (by intro c hc; cases hc) _ (List.mem_singleton.2 rfl)
      obtain ⟨β, w', F, x, H, nx, v, a, b, d, e, g, hw⟩ := hwell (lone (Frame.enter Pr f (List.toArray vs) .normal) cs w) ⟨0, [], w, _, [], rfl, ⟨rfl, rfl, rfl, Nat.le_refl _, fun _ _ => rfl, fun i b f n e => by simp [bt] at e, rfl, fun i o b f n e => by simp [Tr.get] at e, fun i o e => by simp [Tr.get] at e, fun i j o o' b f n f' n' e => by simp [Tr.get] at e⟩, h4 hargs, rfl⟩
      exact ⟨.returned x, w', F, ⟨x, v, β, rfl, e, g, hw.os, hw.tape, hw.output, hw.size, hw.old⟩, a, b, d⟩
    · cases h
  · cases h

end Go.Proofs.YtbgkljpbemehiaaGreat.Sx
