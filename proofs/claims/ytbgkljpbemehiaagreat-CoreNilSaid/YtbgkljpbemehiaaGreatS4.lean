/- Contracts of functions, and how a walk of a body proves one and a call uses one. No condition. -/
import Derived.Test.YtbgkljpbemehiaaGreatS3
import Derived.RecoverIn
namespace Go.Proofs.YtbgkljpbemehiaaGreat.Sx

variable {Pr : Program} {B : World} {N : Nat} {ro : Option Nat} {Q : Post}

class HB (Pr : Program) (f : FuncId) : Prop where h : ∀ as w, (callFunc f as).run Pr w = .ok (.enter f as) w
theorem hb_of {f : FuncId} {fn : Func} (hf : Pr.funcs[f]? = some fn) (hb : (fn.body.isSome && !(fn.name == "runtime.NumGoroutine")) = true) : HB Pr f := ⟨fun as w => by
  simp only [Bool.and_eq_true, Bool.not_eq_true'] at hb
  have h2 : fn.body.isNone = false := by
    cases hh : fn.body with
    | none => rw [hh] at hb; cases hb.1
    | some c => rfl
  simp only [callFunc, Sem.run_bind, run_program, Result.andThen_ok, hf, hb.2, h2, Bool.false_eq_true, if_false, Sem.run_pure]⟩

/-- A contract: called in a world that satisfies Ps (and whatever else; where what else there is supports R), the function returns as Sr tells, or panics as Sp tells; whatever else is as it was. -/
def FnR (Pr : Program) (B : World) (R : World → Prop) (f : FuncId) (args : List Value) (Ps : List HP) (Sr : Value → List HP → Prop) (Sp : List PanicEntry → List HP → Prop := fun _ _ => False) : Prop :=
  ∀ (F : HP), (∀ w, St B [F] w → R w) → ∀ (w : World), St B (Ps ++ [F]) w → Calls Pr f args.toArray w fun
    | .returned v, w' => ∃ L', St B (L' ++ [F]) w' ∧ Sr v L'
    | .panicked ch, w' => ∃ L', St B (L' ++ [F]) w' ∧ Sp ch L'
    | .outgrown, _ => False
abbrev Fn (Pr : Program) (B : World) (f : FuncId) (args : List Value) (Ps : List HP) (Sr : Value → List HP → Prop) (Sp : List PanicEntry → List HP → Prop := fun _ _ => False) : Prop := FnR Pr B (fun _ => True) f args Ps Sr Sp

theorem FnR.mono {R : World → Prop} {f : FuncId} {args : List Value} {Ps : List HP} {Sr Sr' : Value → List HP → Prop} {Sp Sp' : List PanicEntry → List HP → Prop} (h : FnR Pr B R f args Ps Sr Sp)
    (hr : ∀ v L, Sr v L → Sr' v L) (hp : ∀ c L, Sp c L → Sp' c L) : FnR Pr B R f args Ps Sr' Sp' := fun F hR w hw => (h F hR w hw).mono fun e w' x => by
  cases e with
  | returned v => obtain ⟨L', a, b⟩ := x; exact ⟨L', a, hr _ _ b⟩
  | panicked ch => obtain ⟨L', a, b⟩ := x; exact ⟨L', a, hp _ _ b⟩
  | outgrown => exact x.elim
theorem FnR.pre {R : World → Prop} {f : FuncId} {args : List Value} {Ps Ps' : List HP} {Sr : Value → List HP → Prop} {Sp : List PanicEntry → List HP → Prop} (h : FnR Pr B R f args Ps Sr Sp) (e : Ent Ps' Ps) : FnR Pr B R f args Ps' Sr Sp :=
  fun F hR w hw => h F hR w (hw.ent (Ent.append e (Ent.refl _)))

/-- L is Ps and F -/
inductive Pk : List HP → HP → List HP → Prop
  | here (A L) : Pk (A :: L) A L
  | there {A C L L'} (h : Pk L A L') : Pk (C :: L) A (C :: L')
inductive Spl : List HP → List HP → List HP → Prop
  | nil (L) : Spl L [] L
  | cons {L A L1 Ps F} (h : Pk L A L1) (r : Spl L1 Ps F) : Spl L (A :: Ps) F
theorem Pk.perm {L : List HP} {A : HP} {L' : List HP} (h : Pk L A L') : L.Perm (A :: L') := by
  induction h with
  | here => exact .refl _
  | there _ ih => exact (ih.cons _).trans (.swap _ _ _)
theorem Spl.perm {L Ps F : List HP} (h : Spl L Ps F) : L.Perm (Ps ++ F) := by
  induction h with
  | nil => exact .refl _
  | cons h _ ih => exact h.perm.trans (ih.cons _)

theorem Spl.st {L Ps F : List HP} {w : World} (s : Spl L Ps F) (h : St B L w) : St B Ps w := (h.perm s.perm).ent fun _ x => by
  obtain ⟨h1, h2, a, b, c, d, e⟩ := star_append.1 x
  exact star_sub a d
theorem FnR.callR {R : World → Prop} {f : FuncId} {first cap : Array Value} {vs as : List Value} {Ps F L : List HP} {Sr : Value → List HP → Prop} {Sp : List PanicEntry → List HP → Prop} [hb : HB Pr f] (h : FnR Pr B R f as Ps Sr Sp)
    (ha : first.toList ++ vs ++ cap.toList = as) (s : Spl L Ps F) (hR : ∀ w, St B F w → R w) : CallR Pr B (.func (.func f) first cap) vs L (fun v L' => ∃ L1, L' = L1 ++ F ∧ Sr v L1) (fun c L' => ∃ L1, L' = L1 ++ F ∧ Sp c L1) := by
  intro w hw
  refine ⟨{ target := .fn (.func f) cap, args := first ++ vs.toArray }, by simp [Deferred.ofValue], .inl ⟨f, (first ++ vs.toArray) ++ cap, by simp [invoke, hb.h], ?_⟩⟩
  have hargs : (first ++ vs.toArray) ++ cap = as.toArray := by
    apply Array.toList_inj.1; simp [← ha]
  rw [hargs]
  refine (h (star F) (fun w hw => hR w (hw.ent fun h x => by simpa using star_split (L := []) x)) w ((hw.perm s.perm).ent fun h x => star_join x)).mono fun e w' x => ?_
  cases e with
  | returned v => obtain ⟨L', a, b⟩ := x; exact ⟨L' ++ F, a.ent fun h y => star_split y, L', rfl, b⟩
  | panicked ch => obtain ⟨L', a, b⟩ := x; exact ⟨L' ++ F, a.ent fun h y => star_split y, L', rfl, b⟩
  | outgrown => exact x.elim

/-- A call by its contract. -/
theorem W.callFR {R : World → Prop} {fo : Operand} {args : Array Operand} {ats : Array TypeId} {ty : TypeId} {dst : Option Tmp} {k : Kt} {ρ : Env} {d : List Deferred} {L F Ps : List HP} {f : FuncId} {first cap : Array Value} {vs as : List Value}
    {Sr : Value → List HP → Prop} {Sp : List PanicEntry → List HP → Prop} [hb : HB Pr f] (ef : evo ρ fo = some (.func (.func f) first cap)) (ea : evl ρ args.toList = some vs) (b : dok N dst = true) (h : FnR Pr B R f as Ps Sr Sp)
    (ha : first.toList ++ vs ++ cap.toList = as) (s : Spl L Ps F) (hR : ∀ w, St B F w → R w) (hk : ∀ v L', Sr v L' → W Pr B N ro Q (.run k) (pd dst v ρ) d (L' ++ F)) (hp : ∀ ch L', Sp ch L' → Q (.panic ch) ρ d (L' ++ F)) :
    W Pr B N ro Q (.op (.call { callee := .value fo, args, argTypes := ats }) ty dst k) ρ d L :=
  .call ef ea b (h.callR ha s hR) (fun v L' ⟨L1, e, x⟩ => e ▸ hk v L1 x) (fun ch L' ⟨L1, e, x⟩ => e ▸ hp ch L1 x)
theorem W.callF {fo : Operand} {args : Array Operand} {ats : Array TypeId} {ty : TypeId} {dst : Option Tmp} {k : Kt} {ρ : Env} {d : List Deferred} {L F Ps : List HP} {f : FuncId} {first cap : Array Value} {vs as : List Value}
    {Sr : Value → List HP → Prop} {Sp : List PanicEntry → List HP → Prop} [hb : HB Pr f] (ef : evo ρ fo = some (.func (.func f) first cap)) (ea : evl ρ args.toList = some vs) (b : dok N dst = true) (h : Fn Pr B f as Ps Sr Sp)
    (ha : first.toList ++ vs ++ cap.toList = as) (s : Spl L Ps F) (hk : ∀ v L', Sr v L' → W Pr B N ro Q (.run k) (pd dst v ρ) d (L' ++ F)) (hp : ∀ ch L', Sp ch L' → Q (.panic ch) ρ d (L' ++ F)) :
    W Pr B N ro Q (.op (.call { callee := .value fo, args, argTypes := ats }) ty dst k) ρ d L :=
  .callFR ef ea b h ha s (fun _ _ => trivial) hk hp
/-- .. of one that does not panic -/
theorem W.callN {fo : Operand} {args : Array Operand} {ats : Array TypeId} {ty : TypeId} {dst : Tmp} {k : Kt} {ρ : Env} {d : List Deferred} {L F Ps : List HP} {f : FuncId} {first cap : Array Value} {vs as : List Value}
    {Sr : Value → List HP → Prop} [hb : HB Pr f] (h : Fn Pr B f as Ps Sr) (ef : evo ρ fo = some (.func (.func f) first cap)) (ea : evl ρ args.toList = some vs) (b : Nat.blt dst N = true)
    (ha : first.toList ++ vs ++ cap.toList = as) (s : Spl L Ps F) (hk : ∀ v L', Sr v L' → W Pr B N ro Q (.run k) ((dst, v) :: ρ) d (L' ++ F)) :
    W Pr B N ro Q (.op (.call { callee := .value fo, args, argTypes := ats }) ty (some dst) k) ρ d L :=
  .callF ef ea b h ha s hk (fun _ _ x => x.elim)
theorem W.callNR {R : World → Prop} {fo : Operand} {args : Array Operand} {ats : Array TypeId} {ty : TypeId} {dst : Tmp} {k : Kt} {ρ : Env} {d : List Deferred} {L F Ps : List HP} {f : FuncId} {first cap : Array Value} {vs as : List Value}
    {Sr : Value → List HP → Prop} [hb : HB Pr f] (h : FnR Pr B R f as Ps Sr) (ef : evo ρ fo = some (.func (.func f) first cap)) (ea : evl ρ args.toList = some vs) (b : Nat.blt dst N = true)
    (ha : first.toList ++ vs ++ cap.toList = as) (s : Spl L Ps F) (hR : ∀ w, St B F w → R w) (hk : ∀ v L', Sr v L' → W Pr B N ro Q (.run k) ((dst, v) :: ρ) d (L' ++ F)) :
    W Pr B N ro Q (.op (.call { callee := .value fo, args, argTypes := ats }) ty (some dst) k) ρ d L :=
  .callFR ef ea b h ha s hR hk (fun _ _ x => x.elim)
/-- .. of one whose result and blocks are told outright -/
theorem W.callE {fo : Operand} {args : Array Operand} {ats : Array TypeId} {ty : TypeId} {dst : Tmp} {k : Kt} {ρ : Env} {d : List Deferred} {L F Ps M : List HP} {f : FuncId} {first cap : Array Value} {vs as : List Value} {r : Value}
    [hb : HB Pr f] (h : Fn Pr B f as Ps (fun v L' => v = r ∧ L' = M)) (ef : evo ρ fo = some (.func (.func f) first cap)) (ea : evl ρ args.toList = some vs) (b : Nat.blt dst N = true) (ha : first.toList ++ vs ++ cap.toList = as)
    (s : Spl L Ps F) (hk : W Pr B N ro Q (.run k) ((dst, r) :: ρ) d (M ++ F)) :
    W Pr B N ro Q (.op (.call { callee := .value fo, args, argTypes := ats }) ty (some dst) k) ρ d L :=
  .callF ef ea b h ha s (fun _ _ ⟨h1, h2⟩ => h1 ▸ h2 ▸ hk) (fun _ _ x => x.elim)
theorem W.callER {R : World → Prop} {fo : Operand} {args : Array Operand} {ats : Array TypeId} {ty : TypeId} {dst : Tmp} {k : Kt} {ρ : Env} {d : List Deferred} {L F Ps M : List HP} {f : FuncId} {first cap : Array Value} {vs as : List Value} {r : Value}
    [hb : HB Pr f] (h : FnR Pr B R f as Ps (fun v L' => v = r ∧ L' = M)) (ef : evo ρ fo = some (.func (.func f) first cap)) (ea : evl ρ args.toList = some vs) (b : Nat.blt dst N = true) (ha : first.toList ++ vs ++ cap.toList = as)
    (s : Spl L Ps F) (hR : ∀ w, St B F w → R w) (hk : W Pr B N ro Q (.run k) ((dst, r) :: ρ) d (M ++ F)) :
    W Pr B N ro Q (.op (.call { callee := .value fo, args, argTypes := ats }) ty (some dst) k) ρ d L :=
  .callFR ef ea b h ha s hR (fun _ _ ⟨h1, h2⟩ => h1 ▸ h2 ▸ hk) (fun _ _ x => x.elim)
theorem pvGo {ρ : Env} {L : List HP} {c : PC} {v : Value} (h : PV Pr B ρ L c v) : PV Pr B ρ L c v := h

/-! ### results -/
inductive RV (Pr : Program) (B : World) (L : List HP) (ρ : Env) : List ResultVar → List Value → Prop
  | nil : RV Pr B L ρ [] []
  | tmp {t v rs vs} (e : lk ρ t = some v) (r : RV Pr B L ρ rs vs) : RV Pr B L ρ (.tmp t :: rs) (v :: vs)
  | cell {a t b o T cs fr v rs vs} [t1 : T1 Pr t] (e : lk ρ a = some (.pointer (some ⟨b, o, none⟩))) [hb : Has B L b (.cells (List.toArray cs) T fr)] (ec : cs[o]? = some v) (r : RV Pr B L ρ rs vs) : RV Pr B L ρ (.cell a t :: rs) (v :: vs)
  | cellA {a t n b o T cs fr us rs vs} [ta : TA Pr t n] (e : lk ρ a = some (.pointer (some ⟨b, o, none⟩))) [hb : Has B L b (.cells (List.toArray cs) T fr)] (ec : ldn cs o n = some us) (r : RV Pr B L ρ rs vs) : RV Pr B L ρ (.cell a t :: rs) (.agg us.toArray :: vs)
def packV : List Value → Value
  | [v] => v
  | vs => .tuple vs.toArray

theorem asAddr_some (a : Addr) : asAddr (.pointer (some a)) = pure a := rfl
theorem RV.run {L : List HP} {ρ : Env} {rs : List ResultVar} {vs : List Value} (h : RV Pr B L ρ rs vs) {tmps : Array Value} {w : World} (hr : Rel N ρ tmps) (hw : St B L w) (g : ResultVar → Sem Value)
    (g1 : ∀ t, g (.tmp t) = pure (tmps.getD t undef)) (g2 : ∀ a t, g (.cell a t) = (do loadVar t (← asAddr (tmps.getD a undef)))) : (rs.mapM g).run Pr w = .ok vs w := by
  induction h with
  | nil => simp
  | tmp e _ ih => simp only [List.mapM_cons, Sem.run_bind, g1, Sem.run_pure, Result.andThen_ok, hr.2 _ _ e, ih]
  | cell e ec _ ih =>
    rename_i hb _
    simp only [List.mapM_cons, Sem.run_bind, g2, Sem.run_pure, Result.andThen_ok, hr.2 _ _ e, asAddr_some, run_loadVar1 (hb.h w hw) ec, ih]
  | cellA e ec _ ih =>
    rename_i hb _
    simp only [List.mapM_cons, Sem.run_bind, g2, Sem.run_pure, Result.andThen_ok, hr.2 _ _ e, asAddr_some, run_loadVarA (hb.h w hw) ec, ih]
theorem RV.results {L : List HP} {ρ : Env} {fn : Func} {rs : List ResultVar} (hfn : fn.results = rs.toArray) {vs : List Value} (h : RV Pr B L ρ rs vs) {tmps : Array Value} {w : World} (hr : Rel N ρ tmps) (hw : St B L w) :
    (results fn tmps).run Pr w = .ok (packV vs) w := by
  unfold Go.results
  rw [Array.mapM_eq_mapM_toList, hfn]
  simp only [Sem.run_bind, Sem.run_map]
  rw [h.run hr hw _ (fun _ => rfl) (fun _ _ => rfl)]
  simp only [Result.andThen_ok, Sem.run_pure]
  match vs with
  | [] => rfl
  | [v] => rfl
  | _ :: _ :: _ => rfl

/-! ### deferred calls -/
def CallDR (Pr : Program) (B : World) (f : FuncId) (args : Array Value) (u : FrameMode) (L : List HP) (S : Ending → FrameMode → List HP → Prop) : Prop :=
  ∀ w, St B L w → CallsDIn Fence.wide 0 Pr f args u w fun e u' w' => ∃ L', St B L' w' ∧ S e u' L'

/-- How a function leaves, its deferred calls (the last one first) and what has come of its body given. -/
def Lv (Pr : Program) (B : World) (rs : List ResultVar) (Sr : Value → List HP → Prop) (Sp : List PanicEntry → List HP → Prop) (F : HP) : List Deferred → FrameMode → Env → List HP → Prop
  | [], .returning, ρ, L => ∃ vs L', RV Pr B L ρ rs vs ∧ (∀ w, St B L w → St B (L' ++ [F]) w) ∧ Sr (packV vs) L'
  | [], .panicking ch, _, L => ∃ L', (∀ w, St B L w → St B (L' ++ [F]) w) ∧ Sp ch L'
  | [], .run, _, _ => False
  | d :: ds, u, ρ, L => u ≠ .run ∧
      ((∃ r L1, d.target = .collected r ∧ PickPt L r (.deferred (some [])) L1 ∧ Lv Pr B rs Sr Sp F ds u ρ (pt r (.deferred none) :: L1)) ∨
       (∃ f cap S, d.target = .fn (.func f) cap ∧ HB Pr f ∧ CallDR Pr B f (d.args ++ cap) u L S ∧ ∀ e u' L', S e u' L' → match e with
          | .returned _ => Lv Pr B rs Sr Sp F ds (settle u') ρ L'
          | .panicked ch => Lv Pr B rs Sr Sp F ds (raised u' ch) ρ L'
          | .outgrown => False))

def FnQ (Pr : Program) (B : World) (rs : List ResultVar) (Sr : Value → List HP → Prop) (Sp : List PanicEntry → List HP → Prop) (F : HP) : Post
  | .ret, ρ, d, L | .normal, ρ, d, L => Lv Pr B rs Sr Sp F d .returning ρ L
  | .panic ch, ρ, d, L => Lv Pr B rs Sr Sp F d (.panicking ch) ρ L
  | _, _, _, _ => False

theorem takeDeferred_run {L : List HP} {r : Nat} {w : World} (hw : St B (pt r (.deferred (some [])) :: L) w) : ∃ w', (Instr.takeDeferred r).run Pr w = .ok [] w' ∧ St B (pt r (.deferred none) :: L) w' := by
  have hr := hw.at.2
  have hlt : r < w.heap.size := (Array.getElem?_eq_some_iff.1 hr).1
  refine ⟨{ w with heap := w.heap.setIfInBounds r (.deferred none) }, ?_, hw.put rfl rfl rfl (by simp) (by simp [hlt]) (fun i hi => by simp [Array.getElem?_setIfInBounds, Ne.symm hi])⟩
  simp [Instr.takeDeferred, getObj, setObj, Sem.run, hr]

theorem Lv.leaves {fn : Func} {rs : List ResultVar} (hfn : fn.results = rs.toArray) {Sr : Value → List HP → Prop} {Sp : List PanicEntry → List HP → Prop} {F : HP} {ρ : Env} {tmps : Array Value} (hr : Rel N ρ tmps) :
    ∀ {ds : List Deferred} {u : FrameMode} {L : List HP} {w : World}, Lv Pr B rs Sr Sp F ds u ρ L → St B L w →
      LeavesInM Fence.wide 0 Pr fn tmps (fun
        | .returned v, w' => ∃ L', St B (L' ++ [F]) w' ∧ Sr v L'
        | .panicked ch, w' => ∃ L', St B (L' ++ [F]) w' ∧ Sp ch L'
        | .outgrown, _ => False) ds u w := by
  intro ds
  induction ds with
  | nil =>
    intro u L w h hw
    cases u with
    | run => exact h.elim
    | returning => obtain ⟨vs, L', h1, h2, h3⟩ := h; exact ⟨_, h1.results hfn hr hw, L', h2 w hw, h3⟩
    | panicking ch => obtain ⟨L', h2, h3⟩ := h; exact ⟨L', h2 w hw, h3⟩
  | cons d ds ih =>
    intro u L w h hw
    obtain ⟨hu, h⟩ := h
    refine ⟨hu, ?_⟩
    rcases h with ⟨r, L1, ht, hp, hl⟩ | ⟨f, cap, S, ht, hb, hc, hl⟩
    · obtain ⟨w', h1, h2⟩ := takeDeferred_run (Pr := Pr) (hw.perm hp.perm)
      exact .inl ⟨r, w', ht, h1, ih hl h2⟩
    · refine .inr ⟨by simp [Fence.wide], .func f, cap, f, d.args ++ cap, ht, by rw [ht]; simp [invoke, hb.h], fun _ _ => trivial, ?_⟩
      have := hc w hw
      refine CallsDIn.mono this fun e u' w' ⟨L', h1, h2⟩ => ?_
      have hl' := hl e u' L' h2
      cases e with
      | returned v => exact ih hl' h1
      | panicked ch => exact ih hl' h1
      | outgrown => exact hl'.elim

/-- the arguments' slots -/
def aenv : Nat → List Value → Env
  | _, [] => []
  | i, v :: vs => (i, v) :: aenv (i + 1) vs
theorem aenv_lk : ∀ (vs : List Value) (i t : Nat) (v : Value), lk (aenv i vs) t = some v → i ≤ t ∧ vs[t - i]? = some v
  | [], i, t, v, h => by simp [aenv, lk] at h
  | x :: vs, i, t, v, h => by
    simp only [aenv, lk_cons] at h
    by_cases e : t = i
    · subst e; simp at h; subst h; simp
    · rw [if_neg e] at h
      obtain ⟨h1, h2⟩ := aenv_lk vs (i + 1) t v h
      refine ⟨by omega, ?_⟩
      rw [show t - i = (t - (i + 1)) + 1 from by omega]
      simpa using h2

/-- A contract out of a walk of the body. -/
theorem FnR.of_walk {R : World → Prop} {f : FuncId} {fn : Func} {c : Code} {rs : List ResultVar} {args : List Value} {Ps : List HP} {Sr : Value → List HP → Prop} {Sp : List PanicEntry → List HP → Prop} (hf : Pr.funcs[f]? = some fn) (hb : fn.body = some c) (hn : fn.ntmps = N) (hrs : fn.results = rs.toArray)
    (hl : Nat.ble args.length N = true) (hw : ∀ F, (∀ w, St B [F] w → R w) → W Pr B N none (FnQ Pr B rs Sr Sp F) (.run (.it [.code c])) (aenv 0 args) [] (Ps ++ [F])) : FnR Pr B R f args Ps Sr Sp := by
  intro F hR w hst
  have hl := Nat.le_of_ble_eq_true hl
  refine callsIn_wide (n := 0).1 (callsIn_of_wp_marks hf hb trivial ?_)
  intro b k cs hro _ _
  have hrel : Rel N (aenv 0 args) (args.toArray ++ Array.replicate (fn.ntmps - args.toArray.size) undef) := by
    refine ⟨by simp [hn]; omega, fun t v h => ?_⟩
    obtain ⟨_, h2⟩ := aenv_lk args 0 t v h
    simp only [Nat.sub_zero] at h2
    have hlt : t < args.length := (List.getElem?_eq_some_iff.1 h2).1
    rw [Array.getD_eq_getD_getElem?, Array.getElem?_append_left (by simpa using hlt)]
    simp [h2]
  obtain ⟨e, a', w', ρ', L', hq, hr, hs, arr⟩ := (hw F hR).sound w { tmps := args.toArray ++ Array.replicate (fn.ntmps - args.toArray.size) undef, defers := [] } hst hrel rfl b k cs hro
  refine ⟨e, a', w', ?_, arr⟩
  cases e with
  | normal => exact Lv.leaves hrs hr hq hs
  | ret => exact Lv.leaves hrs hr hq hs
  | panic ch => exact Lv.leaves hrs hr hq hs
  | exit id => exact hq.elim
  | goto l => exact hq.elim
  | outgrown => exact hq.elim

theorem Fn.of_walk {f : FuncId} {fn : Func} {c : Code} {rs : List ResultVar} {args : List Value} {Ps : List HP} {Sr : Value → List HP → Prop} {Sp : List PanicEntry → List HP → Prop} (hf : Pr.funcs[f]? = some fn) (hb : fn.body = some c) (hn : fn.ntmps = N) (hrs : fn.results = rs.toArray)
    (hl : Nat.ble args.length N = true) (hw : ∀ F, W Pr B N none (FnQ Pr B rs Sr Sp F) (.run (.it [.code c])) (aenv 0 args) [] (Ps ++ [F])) : Fn Pr B f args Ps Sr Sp := FnR.of_walk hf hb hn hrs hl fun F _ => hw F

/-- the end of a function without deferred calls -/
theorem finL {rs : List ResultVar} {G : List HP} {Sr : Value → List HP → Prop} {Sp : List PanicEntry → List HP → Prop} {F : HP} {ρ : Env} {L : List HP} {vs : List Value} (L' : List HP) (hv : RV Pr B L ρ rs vs) (s : Spl L (L' ++ [F]) G) (h : Sr (packV vs) L') :
    Lv Pr B rs Sr Sp F [] .returning ρ L :=
  ⟨vs, L', hv, fun w hw => (hw.perm s.perm).ent fun h x => by
    obtain ⟨h1, h2, a, b, c, d, e⟩ := star_append.1 x
    exact star_sub a d, h⟩
theorem fin {rs : List ResultVar} {G : List HP} {Sr : Value → List HP → Prop} {Sp : List PanicEntry → List HP → Prop} {F : HP} {k : List Item} {ρ : Env} {L : List HP} {vs : List Value} (L' : List HP) (hv : RV Pr B L ρ rs vs) (s : Spl L (L' ++ [F]) G) (h : Sr (packV vs) L') :
    W Pr B N ro (FnQ Pr B rs Sr Sp F) (.run (.it (.code .ret :: k))) ρ [] L := .ret (finL (Sp := Sp) L' hv s h)
theorem finE {rs : List ResultVar} {G : List HP} {Sr : Value → List HP → Prop} {Sp : List PanicEntry → List HP → Prop} {F : HP} {ρ : Env} {L : List HP} {vs : List Value} (L' : List HP) (hv : RV Pr B L ρ rs vs) (s : Spl L (L' ++ [F]) G) (h : Sr (packV vs) L') :
    W Pr B N ro (FnQ Pr B rs Sr Sp F) (.run (.it [])) ρ [] L := .nil (finL (Sp := Sp) L' hv s h)

/-! ### loops -/
inductive EnvL (ρ : Env) : Env → Prop
  | nil : EnvL ρ []
  | cons {t v l} (e : lk ρ t = some v) (r : EnvL ρ l) : EnvL ρ ((t, v) :: l)
theorem EnvL.le {ρ ρ' : Env} (h : EnvL ρ ρ') : ∀ t v, lk ρ' t = some v → lk ρ t = some v := by
  induction h with
  | nil => intro t v h; simp [lk] at h
  | cons e _ ih =>
    intro t v h
    rw [lk_cons] at h
    split at h
    · rename_i ht; subst ht; simp at h; subst h; exact e
    · exact ih t v h
theorem W.keep {k : List Item} {ρ : Env} {d : List Deferred} {L G : List HP} (ρ' : Env) (L' : List HP) (e : EnvL ρ ρ') (s : Spl L L' G) (h : W Pr B N ro Q (.run (.it k)) ρ' d L') : W Pr B N ro Q (.run (.it k)) ρ d L :=
  .env e.le (.ghost (α := Unit) (fun _ => L') (fun w hw => ⟨(), (hw.perm s.perm).ent fun h x => by
    obtain ⟨h1, h2, a, b, c, d, e⟩ := star_append.1 x
    exact star_sub a d⟩) fun _ => h)
/-- A loop, by an invariant on a state x, a measure that falls, and what the slots and the blocks are at x. -/
theorem W.loop_ind {α : Type} {c : Code} {k : List Item} {ρ : Env} {d : List Deferred} {L G : List HP} (I : α → Prop) (μ : α → Nat) (ρ' : α → Env) (L' : α → List HP) (x0 : α) (h0 : I x0) (hρ : EnvL ρ (ρ' x0)) (hL : Spl L (L' x0) G)
    (step : ∀ x, I x → (∀ y ρ L G, I y → μ y < μ x → EnvL ρ (ρ' y) → Spl L (L' y) G → W Pr B N ro Q (.run (.it (.inLoop c :: k))) ρ d L) → W Pr B N ro Q (.run (.it (.code c :: .inLoop c :: k))) (ρ' x) d (L' x)) :
    W Pr B N ro Q (.run (.it (.code (.loop c) :: k))) ρ d L := by
  have key : ∀ n x, μ x = n → I x → W Pr B N ro Q (.run (.it (.code c :: .inLoop c :: k))) (ρ' x) d (L' x) := by
    intro n
    induction n using Nat.strongRecOn with
    | _ n ih =>
      intro x hx hI
      exact step x hI fun y ρ L G hy hlt e s => .keep _ _ e s (.inLoop unrl (ih _ (hx ▸ hlt) y rfl hy))
  exact .loop unrl (.keep _ _ hρ hL (key _ x0 rfl h0))

theorem goI {p : Prop} {c : Cf} {ρ : Env} {d : List Deferred} {L : List HP} (h : p → W Pr B N ro Q c ρ d L) : p → W Pr B N ro Q c ρ d L := h
theorem goZ {p : Int → Prop} {c : Int → Cf} {ρ : Int → Env} {d : List Deferred} {L : Int → List HP} (h : ∀ b, p b → W Pr B N ro Q (c b) (ρ b) d (L b)) : ∀ b, p b → W Pr B N ro Q (c b) (ρ b) d (L b) := h
theorem goM {p : Nat → Prop} {c : Nat → Cf} {ρ : Nat → Env} {d : List Deferred} {L : Nat → List HP} (h : ∀ b, p b → W Pr B N ro Q (c b) (ρ b) d (L b)) : ∀ b, p b → W Pr B N ro Q (c b) (ρ b) d (L b) := h
theorem goN {c : Nat → Cf} {ρ : Nat → Env} {d : List Deferred} {L : Nat → List HP} (h : ∀ b, W Pr B N ro Q (c b) (ρ b) d (L b)) : ∀ b, W Pr B N ro Q (c b) (ρ b) d (L b) := h
theorem go {c : Cf} {ρ : Env} {d : List Deferred} {L : List HP} (h : W Pr B N ro Q c ρ d L) : W Pr B N ro Q c ρ d L := h

end Go.Proofs.YtbgkljpbemehiaaGreat.Sx
