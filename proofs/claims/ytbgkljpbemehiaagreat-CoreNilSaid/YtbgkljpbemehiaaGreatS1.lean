/- The meaning of code that is left, in a state of known slots and owned blocks; steps of structure and of one operation. No condition. -/
import Derived.Test.YtbgkljpbemehiaaGreatS1d
import Derived.RangeFuncLeaves
namespace Go.Proofs.YtbgkljpbemehiaaGreat.Sx

abbrev Env := List (Nat × Value)
def lk : Env → Nat → Option Value
  | [], _ => none
  | (d, v) :: ρ, t => bif Nat.beq t d then some v else lk ρ t
def evo (ρ : Env) : Operand → Option Value
  | .tmp t => lk ρ t
  | .const v => some v
  | .global g => some (.pointer (some ⟨g, 0, none⟩))
  | .func f => some (.func (.func f) #[] #[])
def evl (ρ : Env) : List Operand → Option (List Value)
  | [] => some []
  | x :: l => match evo ρ x, evl ρ l with
    | some v, some vs => some (v :: vs)
    | _, _ => none

def Rel (N : Nat) (ρ : Env) (tmps : Array Value) : Prop := tmps.size = N ∧ ∀ t v, lk ρ t = some v → tmps.getD t undef = v

theorem Rel.ev {N : Nat} {ρ : Env} {a : Act} (h : Rel N ρ a.tmps) {x : Operand} {v : Value} (e : evo ρ x = some v) : a.eval x = v := by
  cases x with
  | tmp t => exact h.2 t v e
  | const c => simp only [evo, Option.some.injEq] at e; exact e
  | global g => simp only [evo, Option.some.injEq] at e; exact e
  | func f => simp only [evo, Option.some.injEq] at e; exact e

theorem lk_cons (d : Nat) (v : Value) (ρ : Env) (t : Nat) : lk ((d, v) :: ρ) t = if t = d then some v else lk ρ t := by
  by_cases h : t = d
  · simp [lk, h]
  · have : Nat.beq t d = false := by
      cases e : Nat.beq t d with
      | false => rfl
      | true => exact absurd (Nat.eq_of_beq_eq_true e) h
    simp [lk, h, this]

theorem Rel.put {N : Nat} {ρ : Env} {tmps : Array Value} (h : Rel N ρ tmps) {d : Nat} (hd : d < N) (v : Value) : Rel N ((d, v) :: ρ) (tmps.setIfInBounds d v) := by
  refine ⟨by simp [h.1], fun t u e => ?_⟩
  rw [lk_cons] at e
  by_cases ht : t = d
  · subst ht
    simp at e; subst e
    simp [Array.getD_eq_getD_getElem?, h.1, hd]
  · rw [if_neg ht] at e
    rw [← h.2 t u e]
    simp [Array.getD_eq_getD_getElem?, Ne.symm ht]

theorem Rel.weak {N : Nat} {ρ ρ' : Env} {tmps : Array Value} (h : Rel N ρ tmps) (hw : ∀ t v, lk ρ' t = some v → lk ρ t = some v) : Rel N ρ' tmps :=
  ⟨h.1, fun t v e => h.2 t v (hw t v e)⟩

theorem evl_map {ρ : Env} {ev : Operand → Value} (h : ∀ x v, evo ρ x = some v → ev x = v) : ∀ {l : List Operand} {vs : List Value}, evl ρ l = some vs → l.map ev = vs
  | [], vs, e => by simp [evl] at e; simp [e]
  | x :: l, vs, e => by
    simp only [evl] at e
    split at e
    · rename_i v vs' h1 h2
      simp at e; subst e
      simp [h x v h1, evl_map h h2]
    · cases e

/-- the one step of an operation, by what it is and its type alone -/
def ex (ev : Operand → Value) (o : Op) (ty : TypeId) : Sem Next := execOp ev { dst := none, op := o, type := ty, pos := "", after := #[], guard := none }
theorem ex_eq (ev : Operand → Value) (o : Oper) : execOp ev o = ex ev o.op o.type := by
  obtain ⟨dst, op, type, pos, after, guard⟩ := o
  cases op <;> rfl

/-- the wide fence, in a round or not -/
abbrev FW (ro : Option Nat) : Fence := { fn := fun _ => True, depth := none, alive := false, round := ro }

variable {Pr : Program} {B : World} {N : Nat} {ro : Option Nat}

theorem fenced_FW (m : Machine) : m.fenced Pr (FW ro) := fenced_wide Pr m
theorem sI {m m' : Machine} (h : Steps Pr m m') : StepsIn (Machine.fenced Pr (FW ro)) Pr m m' := (StepsIn.of_steps h).mono fun m _ => fenced_FW m

abbrev Post := Exit → Env → List Deferred → List HP → Prop

/-- The items that are left (within a piece of code): whoever runs them comes to an exit of the code as Q tells. -/
def SemR (Pr : Program) (B : World) (N : Nat) (ro : Option Nat) (Q : Post) (k : List Item) (ρ : Env) (dl : List Deferred) (L : List HP) : Prop :=
  ∀ (w : World) (a : Act), St B L w → Rel N ρ a.tmps → a.defers = dl → ∀ (b : Frame) (k0 : List Item) (cs : List Frame), b.roundOf = ro →
    ∃ e a' w' ρ' L', Q e ρ' a'.defers L' ∧ Rel N ρ' a'.tmps ∧ St B L' w' ∧ ArrivesIn (Machine.fenced Pr (FW ro)) Pr (lone (b.atR a (k ++ k0)) cs w) b k0 cs e a' w'

variable {Q : Post} {k : List Item} {ρ : Env} {dl : List Deferred} {L : List HP}

theorem SemR.of_step {k' : List Item} (h : SemR Pr B N ro Q k' ρ dl L)
    (hs : ∀ (b : Frame) (a : Act) (w : World) (cs : List Frame) (k0 : List Item), b.roundOf = ro → Rel N ρ a.tmps → step Pr (lone (b.atR a (k ++ k0)) cs w) = .next (lone (b.atR a (k' ++ k0)) cs w)) :
    SemR Pr B N ro Q k ρ dl L := by
  intro w a hst hr hd b k0 cs hb
  obtain ⟨e, a', w', ρ', L', q, r, s, arr⟩ := h w a hst hr hd b k0 cs hb
  exact ⟨e, a', w', ρ', L', q, r, s, .of_steps (sI (.one (hs b a w cs k0 hb hr))) arr⟩

theorem semR_nil (h : Q .normal ρ dl L) : SemR Pr B N ro Q [] ρ dl L := fun w a hst hr hd _ _ _ _ =>
  ⟨.normal, a, w, ρ, L, hd ▸ h, hr, hst, .refl _⟩
theorem semR_skip (h : SemR Pr B N ro Q k ρ dl L) : SemR Pr B N ro Q (.code .skip :: k) ρ dl L := h.of_step fun _ _ _ _ _ _ _ => stepR_skip
theorem semR_label {l : Nat} (h : SemR Pr B N ro Q k ρ dl L) : SemR Pr B N ro Q (.code (.label l) :: k) ρ dl L := h.of_step fun _ _ _ _ _ _ _ => stepR_label
theorem semR_seq {x y : Code} (h : SemR Pr B N ro Q (.code x :: .code y :: k) ρ dl L) : SemR Pr B N ro Q (.code (.seq x y) :: k) ρ dl L := h.of_step fun _ _ _ _ _ _ _ => stepR_seq
theorem semR_cond {c : Operand} {t : Bool} {x y : Code} (hc : evo ρ c = some (.bool t)) (h : SemR Pr B N ro Q (.code (if t then x else y) :: k) ρ dl L) :
    SemR Pr B N ro Q (.code (.cond c x y) :: k) ρ dl L := h.of_step fun _ _ _ _ _ _ hr => stepR_cond (hr.ev hc)
theorem semR_block {id : Nat} {c : Code} (h : SemR Pr B N ro Q (.code c :: .inBlock id :: k) ρ dl L) : SemR Pr B N ro Q (.code (.block id c) :: k) ρ dl L := h.of_step fun _ _ _ _ _ _ _ => stepR_block
theorem semR_inBlock {id : Nat} (h : SemR Pr B N ro Q k ρ dl L) : SemR Pr B N ro Q (.inBlock id :: k) ρ dl L := h.of_step fun _ _ _ _ _ _ _ => stepR_inBlock
theorem semR_loop {c : Code} (h : SemR Pr B N ro Q (.code c :: .inLoop c :: k) ρ dl L) : SemR Pr B N ro Q (.code (.loop c) :: k) ρ dl L := h.of_step fun _ _ _ _ _ _ _ => stepR_loop
theorem semR_inLoop {c : Code} (h : SemR Pr B N ro Q (.code c :: .inLoop c :: k) ρ dl L) : SemR Pr B N ro Q (.inLoop c :: k) ρ dl L := h.of_step fun _ _ _ _ _ _ _ => stepR_inLoop
theorem semR_scope {c : Code} (h : SemR Pr B N ro Q (.code c :: .inScope c :: k) ρ dl L) : SemR Pr B N ro Q (.code (.scope c) :: k) ρ dl L :=
  h.of_step fun _ _ _ _ _ _ _ => step_lone_go (by simp [stepG, stepG.exec, Frame.atR])
theorem semR_inScope {c : Code} (h : SemR Pr B N ro Q k ρ dl L) : SemR Pr B N ro Q (.inScope c :: k) ρ dl L :=
  h.of_step fun _ _ _ _ _ _ _ => step_lone_go (by simp [stepG, stepG.exec, Frame.atR])

theorem exitTo_app {id : Nat} {k k' : List Item} (h : exitTo id k = some k') (k0 : List Item) : exitTo id (k ++ k0) = some (k' ++ k0) := by
  induction k with
  | nil => cases h
  | cons x k ih =>
    cases x <;> simp only [List.cons_append, exitTo] at h ⊢ <;> try exact ih h
    split at h
    · rename_i he; simp at h; subst h; simp [he]
    · rename_i he; simp only [he, if_false, Bool.false_eq_true]; exact ih h
theorem exitTo_app_none {id : Nat} {k : List Item} (h : exitTo id k = none) (k0 : List Item) : exitTo id (k ++ k0) = exitTo id k0 := by
  induction k with
  | nil => rfl
  | cons x k ih =>
    cases x <;> simp only [List.cons_append, exitTo] at h ⊢ <;> try exact ih h
    split at h
    · cases h
    · rename_i he; simp only [he, if_false, Bool.false_eq_true]; exact ih h

theorem semR_exit {id : Nat} {k' : List Item} (he : exitTo id k = some k') (h : SemR Pr B N ro Q k' ρ dl L) : SemR Pr B N ro Q (.code (.exit id) :: k) ρ dl L :=
  h.of_step fun _ _ _ _ k0 _ _ => stepR_exit (exitTo_app he k0)
theorem semR_leave {id : Nat} (he : exitTo id k = none) (h : Q (.exit id) ρ dl L) : SemR Pr B N ro Q (.code (.exit id) :: k) ρ dl L := fun w a hst hr hd b k0 cs hb =>
  ⟨.exit id, a, w, ρ, L, hd ▸ h, hr, hst, fun k' hk => sI (.one (stepR_exit ((exitTo_app_none he k0).trans hk))),
    fun _ hk => ⟨k ++ k0, (exitTo_app_none he k0).trans hk, .refl _⟩⟩
theorem semR_ret (h : Q .ret ρ dl L) : SemR Pr B N ro Q (.code .ret :: k) ρ dl L := fun w a hst hr hd b k0 cs hb =>
  ⟨.ret, a, w, ρ, L, hd ▸ h, hr, hst, fun hro => ⟨_, sI (.one (stepR_ret hro))⟩, fun _ => ⟨k ++ k0, .refl _⟩⟩
theorem semR_region {id : Nat} {ops : Array Oper} (h : SemR Pr B N ro Q (.inRegion ops (List.range ops.size) :: k) ρ dl L) : SemR Pr B N ro Q (.code (.region id ops false) :: k) ρ dl L :=
  h.of_step fun _ _ _ _ _ _ _ => stepR_region
theorem semR_regionEnd {ops : Array Oper} (h : SemR Pr B N ro Q k ρ dl L) : SemR Pr B N ro Q (.inRegion ops [] :: k) ρ dl L := h.of_step fun _ _ _ _ _ _ _ => stepR_region_end

theorem SemR.ent {L' : List HP} (h : SemR Pr B N ro Q k ρ dl L') (e : Ent L L') : SemR Pr B N ro Q k ρ dl L := fun w a hst hr hd => h w a (hst.ent e) hr hd
theorem SemR.ghost {α : Type} {L' : α → List HP} (h : ∀ x, SemR Pr B N ro Q k ρ dl (L' x)) (e : ∀ w, St B L w → ∃ x, St B (L' x) w) : SemR Pr B N ro Q k ρ dl L := fun w a hst hr hd =>
  let ⟨x, hx⟩ := e w hst; h x w a hx hr hd
theorem SemR.env {ρ' : Env} (h : SemR Pr B N ro Q k ρ' dl L) (e : ∀ t v, lk ρ' t = some v → lk ρ t = some v) : SemR Pr B N ro Q k ρ dl L := fun w a hst hr hd => h w a hst (hr.weak e) hd
theorem SemR.post {Q' : Post} (h : SemR Pr B N ro Q k ρ dl L) (e : ∀ x ρ d L, Q x ρ d L → Q' x ρ d L) : SemR Pr B N ro Q' k ρ dl L := fun w a hst hr hd b k0 cs hb =>
  let ⟨x, a', w', ρ', L', q, r, s, arr⟩ := h w a hst hr hd b k0 cs hb; ⟨x, a', w', ρ', L', e _ _ _ _ q, r, s, arr⟩

/-! ### one operation -/
def pd (dst : Option Tmp) (v : Value) (ρ : Env) : Env := match dst with | some d => (d, v) :: ρ | none => ρ
def dok (N : Nat) : Option Tmp → Bool
  | none => true
  | some d => Nat.blt d N
theorem Rel.pd {N : Nat} {ρ : Env} {a : Act} (h : Rel N ρ a.tmps) {dst : Option Tmp} (hd : dok N dst = true) (v : Value) : Rel N (pd dst v ρ) (a.put dst v).tmps := by
  cases dst with
  | none => exact h
  | some d => exact h.put (by simpa [dok, Nat.blt_eq] using hd) v
theorem put_defers (a : Act) (dst : Option Tmp) (v : Value) : (a.put dst v).defers = a.defers := by cases dst <;> rfl

/-- what is left behind an operation: items; or what is left of a region whose order is drawn: operations to come (in an order of ours), operations whose value is known but that may not have been run (which one, its slot, its value) -/
inductive Kt
  | it (k : List Item)
  | dr (ops : Array Oper) (ms todo : List Nat) (pend : List (Nat × Nat × Value)) (k : List Item)

def RelD (N : Nat) (ρ : Env) (pend : List (Nat × Nat × Value)) (r : List Nat) (tmps : Array Value) : Prop :=
  tmps.size = N ∧ (∀ t v, lk ρ t = some v → t ∉ pend.map (·.2.1) → tmps.getD t undef = v) ∧ ∀ p ∈ pend, p.1 ∉ r → tmps.getD p.2.1 undef = p.2.2

/-- whoever is here comes to an exit as Q tells -/
def Arr (Pr : Program) (B : World) (N : Nat) (ro : Option Nat) (Q : Post) (k : List Item) (w : World) (a : Act) : Prop :=
  ∀ (b : Frame) (k0 : List Item) (cs : List Frame), b.roundOf = ro →
    ∃ e a' w' ρ' L', Q e ρ' a'.defers L' ∧ Rel N ρ' a'.tmps ∧ St B L' w' ∧ ArrivesIn (Machine.fenced Pr (FW ro)) Pr (lone (b.atR a (k ++ k0)) cs w) b k0 cs e a' w'

theorem Arr.step {k k' : List Item} {w w' : World} {a a' : Act} (h : Arr Pr B N ro Q k' w' a')
    (hs : ∀ (b : Frame) (cs : List Frame) (k0 : List Item), b.roundOf = ro → step Pr (lone (b.atR a (k ++ k0)) cs w) = .next (lone (b.atR a' (k' ++ k0)) cs w')) : Arr Pr B N ro Q k w a := by
  intro b k0 cs hb
  obtain ⟨e, a2, w2, ρ', L', q, r, s, arr⟩ := h b k0 cs hb
  exact ⟨e, a2, w2, ρ', L', q, r, s, .of_steps (sI (.one (hs b cs k0 hb))) arr⟩

def SemK (Pr : Program) (B : World) (N : Nat) (ro : Option Nat) (Q : Post) : Kt → Env → List Deferred → List HP → Prop
  | .it k, ρ, dl, L => SemR Pr B N ro Q k ρ dl L
  | .dr ops ms todo pend k, ρ, dl, L => ∀ (r : List Nat) (w : World) (a : Act), Rem ops ms todo pend r → St B L w → RelD N ρ pend r a.tmps → a.defers = dl → Arr Pr B N ro Q (.inRegion ops r :: k) w a

/-- how an operation that is about to be run hangs together with what is told to be left -/
def Link (k : Kt) (ops : Array Oper) (i : Nat) (r : List Nat) (k' : List Item) (tmps : Array Value) : Prop := match k with
  | .it k => k = .inRegion ops r :: k'
  | .dr ops' ms todo pend k'' => ops' = ops ∧ k'' = k' ∧ Rem ops ms todo pend r ∧ (∀ p ∈ pend, p.1 ∉ r → tmps.getD p.2.1 undef = p.2.2) ∧ ∀ o, ops[i]? = some o → ∀ d, o.dst = some d → d ∉ pend.map (·.2.1)

theorem put_other (tmps : Array Value) (d t : Nat) (v : Value) (h : d ≠ t) : (tmps.setIfInBounds d v).getD t undef = tmps.getD t undef := by
  simp [Array.getD_eq_getD_getElem?, Array.getElem?_setIfInBounds, h]

theorem SemK.next {k : Kt} {ρ' : Env} {dl : List Deferred} {L' : List HP} {ops : Array Oper} {i : Nat} {r : List Nat} {k' : List Item} {oo : Oper} {tmps : Array Value} {a' : Act} {w : World} {v : Value} (h : SemK Pr B N ro Q k ρ' dl L') (hl : Link k ops i r k' tmps) (ho : ops[i]? = some oo)
    (hst : St B L' w) (ht : a'.tmps = (match oo.dst with | some d => tmps.setIfInBounds d v | none => tmps)) (hr : Rel N ρ' a'.tmps) (hd : a'.defers = dl) : Arr Pr B N ro Q (.inRegion ops r :: k') w a' := by
  cases k with
  | it k =>
    obtain rfl : k = _ := hl
    exact fun b k0 cs hb => h w a' hst hr hd b k0 cs hb
  | dr ops' ms todo pend k'' =>
    obtain ⟨rfl, rfl, h1, h2, h3⟩ := hl
    refine h r w a' h1 hst ⟨hr.1, fun t v e _ => hr.2 t v e, fun p hp hpr => ?_⟩ hd
    rw [← h2 p hp hpr, ht]
    cases hdst : oo.dst with
    | none => rfl
    | some d =>
      exact put_other _ _ _ _ (fun e => h3 oo ho d hdst (e ▸ List.mem_map.2 ⟨p, hp, rfl⟩))

theorem put_tmps (a : Act) (dst : Option Tmp) (v : Value) : (a.put dst v).tmps = (match dst with | some d => a.tmps.setIfInBounds d v | none => a.tmps) := by cases dst <;> rfl

/-- the next operation, its guard met -/
def SemO (Pr : Program) (B : World) (N : Nat) (ro : Option Nat) (Q : Post) (o : Op) (ty : TypeId) (dst : Option Tmp) (k : Kt) (ρ : Env) (dl : List Deferred) (L : List HP) : Prop :=
  ∀ (ops : Array Oper) (i : Nat) (r : List Nat) (k' : List Item) (oo : Oper) (w : World) (a : Act), Link k ops i r k' a.tmps → ops[i]? = some oo → oo.op = o → oo.type = ty → oo.dst = dst →
    St B L w → Rel N ρ a.tmps → a.defers = dl → Region.wanted oo (yielded ops a.tmps) = true → Arr Pr B N ro Q (.inRegion ops (i :: r) :: k') w a

variable {kt : Kt}
/-- a value, or nothing, is handed back -/
theorem semO_val {o : Op} {ty : TypeId} {dst : Option Tmp} (hd : dok N dst = true) (hro : ∀ c, o ≠ .defer c)
    (h : ∀ (ev : Operand → Value) (w : World), (∀ x v, evo ρ x = some v → ev x = v) → St B L w →
      ∃ v w' L', ((ex ev o ty).run Pr w = .ok (.value v) w' ∨ ((ex ev o ty).run Pr w = .ok .skip w' ∧ v = undef)) ∧ St B L' w' ∧ SemK Pr B N ro Q kt (pd dst v ρ) dl L') : SemO Pr B N ro Q o ty dst kt ρ dl L := by
  rintro ops i r k' oo w a hk ho rfl rfl rfl hst hr hdl hw
  obtain ⟨v, w', L', hv, hst', hs⟩ := h a.eval w (fun x v e => hr.ev e) hst
  refine (hs.next hk ho hst' (put_tmps a oo.dst v) (hr.pd hd v) ((put_defers _ _ _).trans hdl)).step fun b cs k0 hb => step_lone_go ?_
  have hfin : (b.atR a (.inRegion ops (i :: r) :: (k' ++ k0))).finish v = b.atR (a.put oo.dst v) (.inRegion ops r :: (k' ++ k0)) := by rw [Frame.finish_atR, ho]; rfl
  rw [List.cons_append, stepGR_op ho hw, Oper.semAt_eq _ _ _ hro, ex_eq, List.cons_append, ← hfin]
  rcases hv with hv | ⟨hv, rfl⟩ <;> simp [stepG.apply, hv]

/-- it panics -/
theorem semO_panic {o : Op} {ty : TypeId} {dst : Option Tmp} {L' : List HP} {v : Value} (hro : ∀ c, o ≠ .defer c)
    (h : ∀ (ev : Operand → Value) (w : World), (∀ x v, evo ρ x = some v → ev x = v) → St B L w → ∃ w', (ex ev o ty).run Pr w = .halt (.panic v) w' ∧ St B L' w')
    (hq : Q (.panic [{ v, recovered := false }]) ρ dl L') : SemO Pr B N ro Q o ty dst kt ρ dl L := by
  rintro ops i r k' oo w a _ ho rfl rfl rfl hst hr hdl hw b k0 cs hb
  obtain ⟨w', hv, hst'⟩ := h a.eval w (fun x v e => hr.ev e) hst
  refine ⟨.panic [{ v, recovered := false }], a, w', ρ, L', hdl ▸ hq, hr, hst', .inRegion ops (i :: r) :: (k' ++ k0), sI (.one (step_lone_go ?_))⟩
  rw [List.cons_append, stepGR_op ho hw, Oper.semAt_eq _ _ _ hro, ex_eq, ← Frame.raise_atR]
  simp [stepG.apply, hv]

/-- a deferred call is noted (outside a round) -/
theorem semO_defer {o : Op} {ty : TypeId} {dst : Option Tmp} {d : Deferred} (hd : dok N dst = true) (hro : ro = none)
    (h : ∀ (ev : Operand → Value) (w : World), (∀ x v, evo ρ x = some v → ev x = v) → (ex ev o ty).run Pr w = .ok (.defer d) w)
    (hs : SemK Pr B N ro Q kt (pd dst undef ρ) (d :: dl) L) : SemO Pr B N ro Q o ty dst kt ρ dl L := by
  rintro ops i r k' oo w a hk ho rfl rfl rfl hst hr hdl hw
  have hv := h a.eval w (fun x v e => hr.ev e)
  refine (hs.next (a' := { a with defers := d :: a.defers }.put oo.dst undef) hk ho hst (put_tmps { a with defers := d :: a.defers } oo.dst undef) (Rel.pd (a := { a with defers := d :: a.defers }) hr hd undef) (by rw [put_defers, hdl])).step fun b cs k0 hb => step_lone_go ?_
  have hfin : ({ b.atR a (.inRegion ops (i :: r) :: (k' ++ k0)) with defers := d :: a.defers } : Frame).finish undef =
      b.atR ({ a with defers := d :: a.defers }.put oo.dst undef) (.inRegion ops r :: (k' ++ k0)) := by
    have := Frame.finish_atR b { a with defers := d :: a.defers } ops i r (k' ++ k0) undef
    rw [ho] at this; exact this
  rw [List.cons_append, stepGR_op ho hw, hb, hro, Oper.semAt_none, ex_eq, List.cons_append]
  simp only [stepG.apply, Sem.runT_eq, hv, GStep.bare_after]
  exact congrArg (fun fr => GStep.go { frame := fr, callers := cs, status := .running, dying := none } w) hfin

/-- what is called, at a value: a function is entered, or a round is run -/
def CalV (Pr : Program) (fv : Value) (args : List Value) (w : World) (R : Ending → World → Prop) : Prop :=
  ∃ d, (Deferred.ofValue fv args.toArray).run Pr w = .ok d w ∧
    ((∃ f as, (invoke d.target d.args).run Pr w = .ok (.enter f as) w ∧ Calls Pr f as w R) ∨
     (∃ l f tmps assign body, (invoke d.target d.args).run Pr w = .ok (.round l f tmps assign body) w ∧ RoundIn Fence.wide 0 Pr l f tmps assign body w R))

theorem semO_call {fo : Operand} {args : Array Operand} {ats : Array TypeId} {ty : TypeId} {dst : Option Tmp} {fv : Value} {vs : List Value} (hd : dok N dst = true)
    (hf : evo ρ fo = some fv) (ha : evl ρ args.toList = some vs)
    (h : ∀ w, St B L w → CalV Pr fv vs w fun
      | .returned v, w' => ∃ L', St B L' w' ∧ SemK Pr B N ro Q kt (pd dst v ρ) dl L'
      | .panicked ch, w' => ∃ L', St B L' w' ∧ Q (.panic ch) ρ dl L'
      | .outgrown, _ => False) : SemO Pr B N ro Q (.call { callee := .value fo, args, argTypes := ats }) ty dst kt ρ dl L := by
  rintro ops i r k' oo w a hk ho hop rfl rfl hst hr hdl hw b k0 cs hb
  obtain ⟨d, hof, hcase⟩ := h w hst
  have hres : (resolve a.eval { callee := .value fo, args, argTypes := ats } oo.type).run Pr w = .ok d w := by
    have hargs : args.map a.eval = vs.toArray := by
      have := evl_map (fun x v e => hr.ev (a := a) e) ha
      apply Array.toList_inj.1; simpa using this
    simp only [resolve, hr.ev hf, hargs]; exact hof
  have hrun : (ex a.eval oo.op oo.type).run Pr w = (invoke d.target d.args).run Pr w := by
    rw [hop]; simp only [ex, execOp, Sem.run_bind, hres, Result.andThen_ok]
  have hnd : ∀ c, oo.op ≠ .defer c := by rw [hop]; intro c hc; cases hc
  have hfin : ∀ v, (b.atR a (.inRegion ops (i :: r) :: (k' ++ k0))).finish v = b.atR (a.put oo.dst v) (.inRegion ops r :: (k' ++ k0)) := by intro v; rw [Frame.finish_atR, ho]; rfl
  rcases hcase with ⟨f, as, hinv, hcall⟩ | ⟨l, f, tmps, assign, body, hinv, hcall⟩
  · have henter : step Pr (lone (b.atR a (.inRegion ops (i :: r) :: (k' ++ k0))) cs w) = .next (lone (Frame.enter Pr f as .normal) (b.atR a (.inRegion ops (i :: r) :: (k' ++ k0)) :: cs) w) :=
      step_lone_go (by rw [stepGR_op ho hw, Oper.semAt_eq _ _ _ hnd, ex_eq]; simp [stepG.apply, hrun, hinv, Frame.atR])
    obtain ⟨e, w'', fr, hR, hsteps, _, hleave⟩ := hcall (b.atR a (.inRegion ops (i :: r) :: (k' ++ k0)) :: cs)
    cases e with
    | returned v =>
      obtain ⟨L', hst', hs⟩ := hR
      obtain ⟨e, a', w3, ρ', L'', q, rr, s, arr⟩ := hs.next hk ho hst' (put_tmps a oo.dst v) (hr.pd hd v) ((put_defers _ _ _).trans hdl) b k0 cs hb
      refine ⟨e, a', w3, ρ', L'', q, rr, s, .of_steps (sI (.head henter (hsteps.trans (.one ?_)))) arr⟩
      rw [List.cons_append, ← hfin]; exact step_leave_returned hleave
    | panicked ch =>
      obtain ⟨L', hst', hq⟩ := hR
      refine ⟨.panic ch, a, w'', ρ, L', hdl ▸ hq, hr, hst', .inRegion ops (i :: r) :: (k' ++ k0), sI (.head henter (hsteps.trans (.one ?_)))⟩
      rw [← Frame.raise_atR]; exact step_leave_panicked hleave
    | outgrown => exact hR.elim
  · have henter : step Pr (lone (b.atR a (.inRegion ops (i :: r) :: (k' ++ k0))) cs w) = .next (lone (Frame.round l f tmps assign body .normal) (b.atR a (.inRegion ops (i :: r) :: (k' ++ k0)) :: cs) w) :=
      step_lone_go (by rw [stepGR_op ho hw, Oper.semAt_eq _ _ _ hnd, ex_eq]; simp [stepG.apply, hrun, hinv, Frame.atR])
    obtain ⟨e, w'', hR, hsteps⟩ := hcall.2 (b.atR a (.inRegion ops (i :: r) :: (k' ++ k0))) cs (room_wide _)
    cases e with
    | returned v =>
      obtain ⟨L', hst', hs⟩ := hR
      obtain ⟨e, a', w3, ρ', L'', q, rr, s, arr⟩ := hs.next hk ho hst' (put_tmps a oo.dst v) (hr.pd hd v) ((put_defers _ _ _).trans hdl) b k0 cs hb
      refine ⟨e, a', w3, ρ', L'', q, rr, s, .of_steps (sI (.head henter ?_)) arr⟩
      have := stepsIn_wide.1 hsteps
      simp only [hfin] at this; exact this
    | panicked ch =>
      obtain ⟨L', hst', hq⟩ := hR
      refine ⟨.panic ch, a, w'', ρ, L', hdl ▸ hq, hr, hst', .inRegion ops (i :: r) :: (k' ++ k0), sI (.head henter ?_)⟩
      have := stepsIn_wide.1 hsteps
      simp only [Frame.raise_atR] at this; exact this
    | outgrown => exact hR.elim

/-- the next operation, its guard's answer known -/
def SemG (Pr : Program) (B : World) (N : Nat) (ro : Option Nat) (Q : Post) (t : Bool) (oo : Oper) (k : Kt) (ρ : Env) (dl : List Deferred) (L : List HP) : Prop :=
  ∀ (ops : Array Oper) (i : Nat) (r : List Nat) (k' : List Item) (w : World) (a : Act), Link k ops i r k' a.tmps → ops[i]? = some oo →
    St B L w → Rel N ρ a.tmps → a.defers = dl → Region.wanted oo (yielded ops a.tmps) = t → Arr Pr B N ro Q (.inRegion ops (i :: r) :: k') w a

/-- an operation whose guard is not met -/
theorem semG_unwanted {oo : Oper} (hd : dok N oo.dst = true) (h : SemK Pr B N ro Q kt (pd oo.dst undef ρ) dl L) : SemG Pr B N ro Q false oo kt ρ dl L := by
  intro ops i r k' w a hk ho hst hr hdl hw
  refine (h.next hk ho hst (put_tmps a oo.dst undef) (hr.pd hd undef) ((put_defers _ _ _).trans hdl)).step fun b cs k0 hb => ?_
  have := stepR_op_skip (P := Pr) (b := b) (a := a) (k := k' ++ k0) (cs := cs) (w := w) (ops := ops) (i := i) (rest := r) (by simp [ho, hw])
  simp only [ho, Option.bind_some] at this
  exact this
theorem semG_wanted {oo : Oper} (h : SemO Pr B N ro Q oo.op oo.type oo.dst kt ρ dl L) : SemG Pr B N ro Q true oo kt ρ dl L := fun ops i r k' w a hk ho hst hr hdl hw =>
  h ops i r k' oo w a hk ho rfl rfl rfl hst hr hdl hw
theorem semR_oper {ops : Array Oper} {i : Nat} {r : List Nat} {k : List Item} {oo : Oper} {t : Bool} (ho : ops[i]? = some oo) (hw : ∀ tmps, Rel N ρ tmps → Region.wanted oo (yielded ops tmps) = t)
    (h : SemG Pr B N ro Q t oo (.it (.inRegion ops r :: k)) ρ dl L) : SemR Pr B N ro Q (.inRegion ops (i :: r) :: k) ρ dl L := fun w a hst hr hdl b k0 cs hb =>
  h ops i r k w a rfl ho hst hr hdl (hw _ hr) b k0 cs hb

theorem SemK.ghost {α : Type} {L' : α → List HP} (h : ∀ x, SemK Pr B N ro Q kt ρ dl (L' x)) (e : ∀ w, St B L w → ∃ x, St B (L' x) w) : SemK Pr B N ro Q kt ρ dl L := by
  cases kt with
  | it k => exact SemR.ghost h e
  | dr ops ms todo pend k => intro r w a h1 h2 h3 h4; obtain ⟨x, hx⟩ := e w h2; exact h x r w a h1 hx h3 h4

/-- what a guard says -/
def gd (ops : Array Oper) (ρ : Env) : Option (Nat × Bool) → Option Bool
  | none => some true
  | some (j, want) => match ops[j]? with
    | some o => (match o.dst with
      | some d => (match lk ρ d with
        | some (.bool b) => some (bif want then b else !b)
        | some (.tuple _) => some false
        | _ => none)
      | none => none)
    | none => none
theorem gd_at {ops : Array Oper} {ρ : Env} {oo : Oper} {t : Bool} (h : gd ops ρ oo.guard = some t) (tmps : Array Value) (hr : ∀ d v, d ∈ oo.looksAt ops → lk ρ d = some v → tmps.getD d undef = v) : Region.wanted oo (yielded ops tmps) = t := by
  unfold Region.wanted
  cases hg : oo.guard with
  | none => rw [hg] at h; simp only [gd, Option.some.injEq] at h; simp [h]
  | some g =>
    obtain ⟨j, want⟩ := g
    rw [hg] at h
    simp only [gd] at h
    split at h
    · rename_i o ho
      split at h
      · rename_i d hd
        have hmem : d ∈ oo.looksAt ops := by simp [Oper.looksAt, hg, ho, hd]
        split at h
        · rename_i b hb
          simp only [Option.some.injEq] at h
          have h2 := hr d _ hmem hb
          have h3 : tmps[d]? = some (.bool b) := by
            rw [Array.getD_eq_getD_getElem?] at h2
            cases e : tmps[d]? with
            | none => rw [e] at h2; simp [undef] at h2
            | some x => rw [e] at h2; simp at h2; rw [h2]
          simp only [yielded, ho, hd, Option.bind_some, h3]
          subst h
          cases want <;> cases b <;> rfl
        · rename_i b hb
          simp only [Option.some.injEq] at h
          have h2 := hr d _ hmem hb
          have h3 : ∀ q, tmps[d]? ≠ some (.bool q) := by
            intro q e
            rw [Array.getD_eq_getD_getElem?, e] at h2
            simp at h2
          have h4 : yielded ops tmps j = none := by
            simp only [yielded, ho, hd, Option.bind_some]
            all_goals (split <;> first | rfl | (rename_i q hq; exact absurd hq (h3 q)))
          simp only [h4]
          subst h
          first | rfl | done
        · cases h
      · cases h
    · cases h
theorem gd_ok {ops : Array Oper} {ρ : Env} {oo : Oper} {t : Bool} (h : gd ops ρ oo.guard = some t) : ∀ tmps, Rel N ρ tmps → Region.wanted oo (yielded ops tmps) = t :=
  fun tmps hr => gd_at h tmps fun d v _ e => hr.2 d v e

/-! ### drawn orders -/
def penv (pend : List (Nat × Nat × Value)) (ρ : Env) : Env := match pend with
  | [] => ρ
  | (_, s, v) :: l => (s, v) :: penv l ρ
theorem penv_lk {ρ : Env} {t : Nat} {v : Value} : ∀ {pend : List (Nat × Nat × Value)}, lk (penv pend ρ) t = some v → (∃ p ∈ pend, p.2.1 = t ∧ p.2.2 = v) ∨ (t ∉ pend.map (·.2.1) ∧ lk ρ t = some v)
  | [], h => .inr ⟨by simp, h⟩
  | (i, s, u) :: l, h => by
    simp only [penv, lk_cons] at h
    by_cases e : t = s
    · rw [if_pos e] at h; simp at h; exact .inl ⟨(i, s, u), by simp, e.symm, h⟩
    · rw [if_neg e] at h
      rcases penv_lk h with ⟨p, h1, h2⟩ | ⟨h1, h2⟩
      · exact .inl ⟨p, by simp [h1], h2⟩
      · exact .inr ⟨by simp [e]; simpa using h1, h2⟩

/-- an operation that, whenever it is run here, yields v and changes nothing of what is told -/
def PVs (Pr : Program) (B : World) (ρ : Env) (L : List HP) (o : Op) (ty : TypeId) (v : Value) : Prop :=
  ∀ (ev : Operand → Value) (w : World), (∀ x u, evo ρ x = some u → ev x = u) → St B L w → ∃ w', (ex ev o ty).run Pr w = .ok (.value v) w' ∧ St B L w'
def Stab (Pr : Program) (B : World) (N : Nat) (ops : Array Oper) (ρ : Env) (L : List HP) (p : Nat × Nat × Value) : Prop :=
  ∃ oo t, ops[p.1]? = some oo ∧ Nat.blt p.2.1 N = true ∧ gd ops ρ oo.guard = some t ∧ (t = true → PVs Pr B ρ L oo.op oo.type p.2.2) ∧ (t = false → p.2.2 = undef)

theorem pure_nd {o : Op} (h : pendOp o = true) : ∀ c, o ≠ .defer c := by intro c e; subst e; cases h

theorem run_known {ops : Array Oper} {ms todo : List Nat} {pend : List (Nat × Nat × Value)} {r : List Nat} {k : List Item} {p : Nat × Nat × Value} {w : World} {a : Act} (hp : p ∈ pend) (hR : Rem ops ms todo pend (p.1 :: r)) (hnt : p.1 ∉ todo) (hst : St B L w) (hr : RelD N ρ pend (p.1 :: r) a.tmps)
    (hs : Stab Pr B N ops (penv pend ρ) L p) (h : ∀ w', St B L w' → ∀ a', a'.defers = a.defers → RelD N ρ pend r a'.tmps → Arr Pr B N ro Q (.inRegion ops r :: k) w' a') : Arr Pr B N ro Q (.inRegion ops (p.1 :: r) :: k) w a := by
  obtain ⟨oo, t, ho, hb, hg, h1, h2⟩ := hs
  obtain ⟨o', ho', hdst, hpure⟩ := hR.pd p hp
  rw [ho] at ho'; cases ho'
  -- what the operation looks at is there
  have hlook : ∀ d v, d ∈ oo.looksAt ops → lk (penv pend ρ) d = some v → a.tmps.getD d undef = v := by
    intro d v hd hl
    rcases penv_lk hl with ⟨q, hq, rfl, rfl⟩ | ⟨hn, hl⟩
    · refine hr.2.2 q hq (fun hin => ?_)
      obtain ⟨o2, ho2, hd2, hp2⟩ := hR.pd q hq
      have hbit := hR.ok.reads p.1 oo q.1 o2 q.2.1 ho ho2 hp2 hd2 hd
      rcases List.mem_cons.1 hin with e | hin
      · rw [e, hR.ok.irr p.1 (hR.bnd p.1 (by simp))] at hbit; cases hbit
      · rw [hR.topo.1 _ hin] at hbit; cases hbit
    · exact hr.2.1 d v hl hn
  have hwant := gd_at hg a.tmps hlook
  have hrel : ∀ v, v = p.2.2 → RelD N ρ pend r (a.put oo.dst v).tmps := by
    rintro v rfl
    have hlt : p.2.1 < N := by simpa [Nat.blt_eq] using hb
    rw [put_tmps, hdst]
    refine ⟨by simp [hr.1], fun t u e hn => ?_, fun q hq hqr => ?_⟩
    · rw [← hr.2.1 t u e hn]
      exact put_other _ _ _ _ (fun e => hn (e ▸ List.mem_map.2 ⟨p, hp, rfl⟩))
    · by_cases e : q.1 = p.1
      · obtain ⟨o2, ho2, hd2, _⟩ := hR.pd q hq
        have heq : q = p := by
          have hnd := (List.nodup_append.1 hR.nd2).2.1
          have : ∀ {l : List (Nat × Nat × Value)}, (l.map (·.1)).Nodup → ∀ {x y}, x ∈ l → y ∈ l → x.1 = y.1 → x = y := by
            intro l
            induction l with
            | nil => intro _ x y hx; cases hx
            | cons z l ih =>
              intro hnd x y hx hy hxy
              simp only [List.map_cons, List.nodup_cons] at hnd
              rcases List.mem_cons.1 hx with hx' | hx' <;> rcases List.mem_cons.1 hy with hy' | hy'
              · rw [hx', hy']
              · exact hnd.1.elim (List.mem_map.2 ⟨y, hy', by rw [← hxy, hx']⟩)
              · exact hnd.1.elim (List.mem_map.2 ⟨x, hx', by rw [hxy, hy']⟩)
              · exact ih hnd.2 hx' hy' hxy
          exact this hnd hq hp e
        subst heq
        simp [Array.getD_eq_getD_getElem?, hr.1, hlt]
      · rw [← hr.2.2 q hq (by simp [e, hqr])]
        refine put_other _ _ _ _ (fun e2 => ?_)
        obtain ⟨o2, ho2, hd2, hp2⟩ := hR.pd q hq
        exact hR.ok.dst1 p.1 oo q.1 o2 q.2.1 ho ho2 hp2 hd2 e (by rw [hdst, e2])
  cases t with
  | false =>
    have := h2 rfl
    refine (h w hst (a.put oo.dst undef) (put_defers _ _ _) (hrel _ this.symm)).step fun b cs k0 hb => ?_
    have := stepR_op_skip (P := Pr) (b := b) (a := a) (k := k ++ k0) (cs := cs) (w := w) (ops := ops) (i := p.1) (rest := r) (by simp [ho, hwant])
    simp only [ho, Option.bind_some] at this
    exact this
  | true =>
    obtain ⟨w', hrun, hst'⟩ := h1 rfl (fun x => (evo (penv pend ρ) x).getD (a.eval x)) w (fun x u e => by simp [e]) hst
    have hrun2 : (ex a.eval oo.op oo.type).run Pr w = .ok (.value p.2.2) w' := by
      rw [← hrun, ← ex_eq, ← ex_eq]
      rw [execOp_congr oo (fun cs b e => by rw [e] at hpure; cases hpure) (fun x hx => ?_)]
      show a.eval x = (evo (penv pend ρ) x).getD (a.eval x)
      cases x with
      | tmp d =>
        cases hl : lk (penv pend ρ) d with
        | none => simp [evo, hl]
        | some u =>
          have := hlook d u (by
            unfold Oper.looksAt
            exact List.mem_append_left _ (List.mem_filterMap.2 ⟨.tmp d, by simpa using hx, rfl⟩)) hl
          simp [evo, hl]; exact this
      | const c => rfl
      | global g => rfl
      | func f => rfl
    refine (h w' hst' (a.put oo.dst p.2.2) (put_defers _ _ _) (hrel _ rfl)).step fun b cs k0 hb => step_lone_go ?_
    have hfin : (b.atR a (.inRegion ops (p.1 :: r) :: (k ++ k0))).finish p.2.2 = b.atR (a.put oo.dst p.2.2) (.inRegion ops r :: (k ++ k0)) := by rw [Frame.finish_atR, ho]; rfl
    rw [List.cons_append, stepGR_op ho hwant, Oper.semAt_eq _ _ _ (pure_nd hpure), ex_eq, List.cons_append, ← hfin]
    simp [stepG.apply, hrun2]

theorem semK_pend {ops : Array Oper} {ms todo : List Nat} {pend : List (Nat × Nat × Value)} {k : List Item} {i s : Nat} {v : Value} {oo : Oper} (ho : ops[i]? = some oo) (hd : oo.dst = some s) (hp : pureOp oo.op = true) (h : SemK Pr B N ro Q (.dr ops ms todo ((i, s, v) :: pend) k) ρ dl L) :
    SemK Pr B N ro Q (.dr ops ms (i :: todo) pend k) ρ dl L := fun r w a hR hst hr hdl =>
  h r w a (hR.toPend ho hd (pend_pure hp)) hst ⟨hr.1, fun t u e hn => hr.2.1 t u e (fun hh => hn (by simp only [List.map_cons]; exact List.mem_cons_of_mem _ hh)), fun p hp hpr => by
    rcases List.mem_cons.1 hp with rfl | hp
    · exact absurd (hR.all i (by simp)) hpr
    · exact hr.2.2 p hp hpr⟩ hdl

inductive PSpl (m : Nat) : List (Nat × Nat × Value) → List (Nat × Nat × Value) → List (Nat × Nat × Value) → Prop
  | nil : PSpl m [] [] []
  | yes {i s v l l1 l2} (h : m.testBit i = true) (r : PSpl m l l1 l2) : PSpl m ((i, s, v) :: l) ((i, s, v) :: l1) l2
  | no {i s v l l1 l2} (h : m.testBit i = false) (r : PSpl m l l1 l2) : PSpl m ((i, s, v) :: l) l1 ((i, s, v) :: l2)
theorem PSpl.spec {m : Nat} {l l1 l2 : List (Nat × Nat × Value)} (h : PSpl m l l1 l2) : l2.Sublist l ∧ l1.Sublist l ∧ (∀ p ∈ l, p ∉ l2 → m.testBit p.1 = true) ∧ (∀ p ∈ l1, m.testBit p.1 = true) ∧ ∀ p ∈ l, p ∈ l1 ∨ p ∈ l2 := by
  induction h with
  | nil => simp
  | yes h _ ih =>
    obtain ⟨a, b, c, d, e⟩ := ih
    refine ⟨a.cons _, b.cons_cons _, fun p hp hn => ?_, fun p hp => ?_, fun p hp => ?_⟩
    · rcases List.mem_cons.1 hp with rfl | hp
      · exact h
      · exact c p hp hn
    · rcases List.mem_cons.1 hp with rfl | hp
      · exact h
      · exact d p hp
    · rcases List.mem_cons.1 hp with rfl | hp
      · exact .inl (by simp)
      · exact (e p hp).imp (List.mem_cons_of_mem _) id
  | no h _ ih =>
    obtain ⟨a, b, c, d, e⟩ := ih
    refine ⟨a.cons_cons _, b.cons _, fun p hp hn => ?_, d, fun p hp => ?_⟩
    · rcases List.mem_cons.1 hp with rfl | hp
      · exact absurd (by simp) hn
      · exact c p hp (fun hh => hn (List.mem_cons_of_mem _ hh))
    · rcases List.mem_cons.1 hp with rfl | hp
      · exact .inr (by simp)
      · exact (e p hp).imp id (List.mem_cons_of_mem _)
/-- the environment without some slots -/
inductive DropL (bad : List (Nat × Nat × Value)) : Env → Env → Prop
  | nil : DropL bad [] []
  | keep {t v ρ ρ'} (h : (bad.map (·.2.1)).elem t = false) (r : DropL bad ρ ρ') : DropL bad ((t, v) :: ρ) ((t, v) :: ρ')
  | skip {t v ρ ρ'} (h : (bad.map (·.2.1)).elem t = true) (r : DropL bad ρ ρ') : DropL bad ((t, v) :: ρ) ρ'
theorem DropL.lk {bad : List (Nat × Nat × Value)} {ρ ρ' : Env} (h : DropL bad ρ ρ') {t : Nat} {v : Value} (e : Sx.lk ρ' t = some v) : Sx.lk ρ t = some v ∧ t ∉ bad.map (·.2.1) := by
  induction h with
  | nil => simp [Sx.lk] at e
  | keep h _ ih =>
    rw [lk_cons] at e ⊢
    split at e
    · rename_i ht; subst ht
      rw [if_pos rfl]; exact ⟨e, fun hh => by rw [List.elem_eq_true_of_mem hh] at h; cases h⟩
    · rename_i ht; rw [if_neg ht]; exact ih e
  | skip h _ ih =>
    obtain ⟨a, b⟩ := ih e
    rw [lk_cons]
    split
    · rename_i ht; subst ht; exact absurd (List.mem_of_elem_eq_true h) b
    · exact ⟨a, b⟩
inductive JoinL (bad : List (Nat × Nat × Value)) (ρ : Env) : List (Nat × Nat × Value) → Env → Prop
  | nil {ρ'} (h : DropL bad ρ ρ') : JoinL bad ρ [] ρ'
  | cons {i s v l ρ'} (h : JoinL bad ρ l ρ') : JoinL bad ρ ((i, s, v) :: l) ((s, v) :: ρ')
theorem JoinL.spec {bad l : List (Nat × Nat × Value)} {ρ ρ' : Env} (h : JoinL bad ρ l ρ') {t : Nat} {v : Value} (e : lk ρ' t = some v) : (∃ p ∈ l, p.2.1 = t ∧ p.2.2 = v) ∨ (t ∉ l.map (·.2.1) ∧ t ∉ bad.map (·.2.1) ∧ lk ρ t = some v) := by
  induction h with
  | nil h => obtain ⟨a, b⟩ := h.lk e; exact .inr ⟨by simp, b, a⟩
  | cons h ih =>
    rename_i i s u l _
    rw [lk_cons] at e
    split at e
    · rename_i ht; simp at e; exact .inl ⟨(i, s, u), by simp, ht.symm, e⟩
    · rename_i ht
      rcases ih e with ⟨p, h1, h2⟩ | ⟨h1, h2⟩
      · exact .inl ⟨p, by simp [h1], h2⟩
      · exact .inr ⟨by simp only [List.map_cons, List.mem_cons, not_or]; exact ⟨ht, h1⟩, h2⟩

/-- the one that all others wait for -/
theorem semK_eff {ops : Array Oper} {ms todo : List Nat} {pend p1 p2 : List (Nat × Nat × Value)} {k : List Item} {i : Nat} {oo : Oper} {t : Bool} {ρ1 : Env} (ho : ops[i]? = some oo) (hc : (todo.all fun x => (ms.getD x 0).testBit i) = true)
    (hs : ∀ p ∈ pend, Stab Pr B N ops (penv pend ρ) L p) (hp : PSpl (ms.getD i 0) pend p1 p2) (hj : JoinL p2 ρ p1 ρ1) (hg : gd ops ρ1 oo.guard = some t) (h : SemG Pr B N ro Q t oo (.dr ops ms todo p2 k) ρ1 dl L) :
    SemK Pr B N ro Q (.dr ops ms (i :: todo) pend k) ρ dl L := by
  rw [List.all_eq_true] at hc
  intro r
  induction r with
  | nil => intro w a hR; have := hR.all i (by simp); cases this
  | cons j r ih =>
    intro w a hR hst hr hdl
    rcases hR.next hc with rfl | ⟨hjt, p, hpm, rfl⟩
    · obtain ⟨s1, s2, s3, s4, s5⟩ := hp.spec
      have hnot : ∀ p ∈ p1, p.1 ∉ j :: r := by
        intro p hp1 hin
        have hb := s4 p hp1
        rcases List.mem_cons.1 hin with e | hin
        · rw [e, hR.ok.irr _ (hR.bnd _ (by simp))] at hb; cases hb
        · rw [hR.topo.1 _ hin] at hb; cases hb
      have hrel : Rel N ρ1 a.tmps := by
        refine ⟨hr.1, fun t v e => ?_⟩
        rcases hj.spec e with ⟨p, hp1, rfl, rfl⟩ | ⟨h1, h2, h3⟩
        · exact hr.2.2 p (s2.subset hp1) (hnot p hp1)
        · refine hr.2.1 t v h3 (fun hh => ?_)
          obtain ⟨q, hq, rfl⟩ := List.mem_map.1 hh
          rcases s5 q hq with hq | hq
          · exact h1 (List.mem_map.2 ⟨q, hq, rfl⟩)
          · exact h2 (List.mem_map.2 ⟨q, hq, rfl⟩)
      refine h ops j r k w a ⟨rfl, rfl, hR.take s1 s3, fun p hp2 hpr => ?_, fun o ho' d hd hin => ?_⟩ ho hst hrel hdl (gd_ok hg _ hrel)
      · by_cases e : p.1 = j
        · have := hR.nd2
          simp only [List.cons_append, List.nodup_cons, List.mem_append, not_or] at this
          exact absurd (List.mem_map.2 ⟨p, s1.subset hp2, e⟩) this.1.2
        · exact hr.2.2 p (s1.subset hp2) (by simp [e, hpr])
      · obtain ⟨q, hq, rfl⟩ := List.mem_map.1 hin
        obtain ⟨o2, ho2, hd2, hpu2⟩ := hR.pd q (s1.subset hq)
        refine hR.ok.dst1 j o q.1 o2 q.2.1 ho' ho2 hpu2 hd2 (fun e => ?_) hd
        have := hR.nd2
        simp only [List.cons_append, List.nodup_cons, List.mem_append, not_or] at this
        exact absurd (List.mem_map.2 ⟨q, s1.subset hq, e⟩) this.1.2
    · exact run_known hpm hR hjt hst hr (hs p hpm) fun w' hst' a' hd' hr' => ih w' a' (hR.pop hjt) hst' hr' (hd'.trans hdl)

theorem semK_end {ops : Array Oper} {ms : List Nat} {pend : List (Nat × Nat × Value)} {k : List Item} {ρ1 : Env} (hs : ∀ p ∈ pend, Stab Pr B N ops (penv pend ρ) L p) (hj : JoinL [] ρ pend ρ1) (h : SemR Pr B N ro Q k ρ1 dl L) :
    SemK Pr B N ro Q (.dr ops ms [] pend k) ρ dl L := by
  intro r
  induction r with
  | nil =>
    intro w a hR hst hr hdl
    have hrel : Rel N ρ1 a.tmps := by
      refine ⟨hr.1, fun t v e => ?_⟩
      rcases hj.spec e with ⟨p, hp1, rfl, rfl⟩ | ⟨h1, h2, h3⟩
      · exact hr.2.2 p hp1 (by simp)
      · exact hr.2.1 t v h3 h1
    exact Arr.step (fun b k0 cs hb => h w a hst hrel hdl b k0 cs hb) fun b cs k0 hb => stepR_region_end
  | cons j r ih =>
    intro w a hR hst hr hdl
    rcases hR.sub j (by simp) with hh | hh
    · cases hh
    · obtain ⟨p, hpm, rfl⟩ := List.mem_map.1 hh
      exact run_known hpm hR (by simp) hst hr (hs p hpm) fun w' hst' a' hd' hr' => ih w' a' (hR.pop (by simp)) hst' hr' (hd'.trans hdl)

theorem semR_drawn {ops : Array Oper} {id : Nat} {ms todo : List Nat} {k : List Item} (hm : Pr.follows .mixedOrders = true) (hc : drOk ops ms todo = true) (h : SemK Pr B N ro Q (.dr ops ms todo [] k) ρ dl L) : SemR Pr B N ro Q (.code (.region id ops true) :: k) ρ dl L := by
  intro w a hst hr hdl b k0 cs hb
  obtain ⟨e, a', w', ρ', L', q, rr, s, arr⟩ := h (Region.schedule true ops (w.tape w.drawn (.order b.fn id))) w.drew a (Rem.start hc _) hst.drew ⟨hr.1, fun t v e _ => hr.2 t v e, by simp⟩ hdl b k0 cs hb
  refine ⟨e, a', w', ρ', L', q, rr, s, .of_steps (sI (.one ?_)) arr⟩
  have := stepR_region_draw (P := Pr) (b := b) (a := a) (k := k ++ k0) (cs := cs) (w := w) (ops := ops) (id := id)
  rw [hm] at this
  exact this

end Go.Proofs.YtbgkljpbemehiaaGreat.Sx
