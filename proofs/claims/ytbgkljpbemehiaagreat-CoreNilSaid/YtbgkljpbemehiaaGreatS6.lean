/- Deferred calls: of functions that recover, and of others. No condition. -/
import Derived.Test.YtbgkljpbemehiaaGreatS5
namespace Go.Proofs.YtbgkljpbemehiaaGreat.Sx

variable {Pr : Program} {B : World} {N : Nat} {ro : Option Nat} {Q : Post}

/-- what recover yields, and the mode that it leaves -/
def recM : FrameMode → Value × FrameMode
  | .panicking ({ v, recovered := false, goexit := false } :: older) => (v, .panicking ({ v, recovered := true } :: older))
  | m => (.nilIface, m)

def DQ (Pr : Program) (B : World) (rs : List ResultVar) (S : Ending → FrameMode → List HP → Prop) (u : FrameMode) : Post
  | .ret, ρ, d, L | .normal, ρ, d, L => d = [] ∧ ∃ vs, RV Pr B L ρ rs vs ∧ S (.returned (packV vs)) u L
  | .panic ch, _, d, L => d = [] ∧ S (.panicked ch) u L
  | _, _, _, _ => False

theorem wpIn_of_W {c : Code} {ρ : Env} {L : List HP} {d : List Deferred} (h : W Pr B N none Q (.run (.it [.code c])) ρ d L) {a : Act} {w : World} (hst : St B L w) (hr : Rel N ρ a.tmps) (hd : a.defers = d) :
    c.wpIn Fence.wide 0 Pr (fun e a' w' => ∃ ρ' L', Q e ρ' a'.defers L' ∧ Rel N ρ' a'.tmps ∧ St B L' w') a w := by
  intro b k cs hro _ _
  obtain ⟨e, a', w', ρ', L', hq, hr', hs, arr⟩ := h.sound w a hst hr hd b k cs hro
  exact ⟨e, a', w', ⟨ρ', L', hq, hr', hs⟩, arr⟩

theorem body_post {fn : Func} {rs : List ResultVar} (hrs : fn.results = rs.toArray) {S : Ending → FrameMode → List HP → Prop} {u : FrameMode} {c₀ : Frame} {cs : List Frame} {c : Code} {a : Act} {w : World}
    (h : c.wpIn Fence.wide 0 Pr (fun e a' w' => ∃ ρ' L', DQ Pr B rs S u e ρ' a'.defers L' ∧ Rel N ρ' a'.tmps ∧ St B L' w') a w) :
    c.wpSIn Fence.wide 0 Pr (bodyPostS Pr fn c₀ cs fun e u' w' => ∃ L', St B L' w' ∧ S e u' L') a ({ c₀ with mode := u } :: cs) w := by
  refine wpSIn_of_wpIn rfl fun b k cs' hro hF hroom => ?_
  obtain ⟨e, a', w', ⟨ρ', L', hq, hr, hs⟩, arr⟩ := h b k cs' hro hF hroom
  refine ⟨e, a', w', ?_, arr⟩
  cases e with
  | normal => obtain ⟨hd, vs, hv, hS⟩ := hq; exact ⟨hd, u, rfl, _, hv.results hrs hr hs, L', hs, hS⟩
  | ret => obtain ⟨hd, vs, hv, hS⟩ := hq; exact ⟨hd, u, rfl, _, hv.results hrs hr hs, L', hs, hS⟩
  | panic ch => obtain ⟨hd, hS⟩ := hq; exact ⟨hd, u, rfl, L', hs, hS⟩
  | exit id => exact hq.elim
  | goto l => exact hq.elim
  | outgrown => exact hq.elim

theorem rel_args {args : List Value} {fn : Func} (hn : fn.ntmps = N) (hl : args.length ≤ N) : Rel N (aenv 0 args) (args.toArray ++ Array.replicate (fn.ntmps - args.toArray.size) undef) := by
  refine ⟨by simp [hn]; omega, fun t v h => ?_⟩
  obtain ⟨_, h2⟩ := aenv_lk args 0 t v h
  simp only [Nat.sub_zero] at h2
  have hlt : t < args.length := (List.getElem?_eq_some_iff.1 h2).1
  rw [Array.getD_eq_getD_getElem?, Array.getElem?_append_left (by simpa using hlt)]
  simp [h2]

/-- a deferred function that does not recover -/
theorem CallDR.of_walk {f : FuncId} {fn : Func} {c : Code} {rs : List ResultVar} {args : List Value} {u : FrameMode} {L : List HP} {S : Ending → FrameMode → List HP → Prop} (hf : Pr.funcs[f]? = some fn) (hb : fn.body = some c) (hn : fn.ntmps = N) (hrs : fn.results = rs.toArray)
    (hl : Nat.ble args.length N = true) (hw : W Pr B N none (DQ Pr B rs S u) (.run (.it [.code c])) (aenv 0 args) [] L) : CallDR Pr B f args.toArray u L S := by
  intro w hst
  refine callsDIn_of_wpSIn hf hb trivial fun c₀ cs hu => ?_
  have := body_post (c₀ := c₀) (cs := cs) hrs (wpIn_of_W (a := { tmps := args.toArray ++ Array.replicate (fn.ntmps - args.toArray.size) undef, defers := [] }) hw hst (rel_args hn (Nat.le_of_ble_eq_true hl)) rfl)
  have e : ({ c₀ with mode := u } : Frame) = c₀ := by subst hu; rfl
  rw [e] at this
  exact this

/-- one that begins by asking recover -/
theorem CallDR.of_rec {f : FuncId} {fn : Func} {rest : Code} {id : Nat} {t : Tmp} {ty : TypeId} {ps : String} {rs : List ResultVar} {args : List Value} {u : FrameMode} {L : List HP} {S : Ending → FrameMode → List HP → Prop} (hf : Pr.funcs[f]? = some fn)
    (hb : fn.body = some (.seq (.region id #[{ dst := some t, op := .call { callee := .builtin .recover, args := #[], argTypes := #[] }, type := ty, pos := ps, after := #[], guard := none }] false) rest)) (hn : fn.ntmps = N) (hrs : fn.results = rs.toArray)
    (hl : Nat.ble args.length N = true) (ht : Nat.blt t N = true) (hw : W Pr B N none (DQ Pr B rs S (recM u).2) (.run (.it [.code rest])) ((t, (recM u).1) :: aenv 0 args) [] L) : CallDR Pr B f args.toArray u L S := by
  intro w hst
  refine callsDIn_of_wpSIn hf hb trivial fun c₀ cs hu => wpSIn_seq (wpSIn_region ?_)
  have hrel := rel_args (N := N) hn (Nat.le_of_ble_eq_true hl)
  show wpOpsSIn _ _ _ _ _ [0] _ _ _
  have hrest : ∀ v u', (v, u') = recM u → rest.wpSIn Fence.wide 0 Pr (bodyPostS Pr fn c₀ cs fun e u' w' => ∃ L', St B L' w' ∧ S e u' L') (({ tmps := args.toArray ++ Array.replicate (fn.ntmps - args.toArray.size) undef, defers := [] } : Act).put (some t) v) ({ c₀ with mode := u' } :: cs) w := by
    intro v u' e
    rw [← e] at hw
    exact body_post hrs (wpIn_of_W (a := ({ tmps := args.toArray ++ Array.replicate (fn.ntmps - args.toArray.size) undef, defers := [] } : Act).put (some t) v) hw hst (hrel.put (by simpa [Nat.blt_eq] using ht) v) rfl)
  simp only [wpOpsSIn, List.getElem?_toArray, List.getElem?_cons_zero]
  refine ⟨fun _ _ => trivial, ?_⟩
  have hw0 : ∀ y, Region.wanted { dst := some t, op := .call { callee := .builtin .recover, args := #[], argTypes := #[] }, type := ty, pos := ps, after := #[], guard := none } y = true := fun y => rfl
  have hrun : ∀ (a : Act), (execOp a.eval { dst := some t, op := .call { callee := .builtin .recover, args := #[], argTypes := #[] }, type := ty, pos := ps, after := #[], guard := none }).run Pr w = .ok .recover w := by
    intro a; simp [execOp, resolve, invoke, builtin]
  rw [if_pos (hw0 _), hrun]
  subst hu
  simp only [recoverD]
  split
  · rename_i v cs' hrec
    split at hrec
    · rename_i v' older hm
      simp only [Option.some.injEq, Prod.mk.injEq] at hrec
      obtain ⟨rfl, rfl⟩ := hrec
      exact hrest _ _ (by rw [hm]; rfl)
    · cases hrec
  · rename_i hrec
    split at hrec
    · cases hrec
    · rename_i hno
      have : recM c₀.mode = (.nilIface, c₀.mode) := by
        unfold recM
        split
        · rename_i v older hm; exact absurd hm (hno v older)
        · rfl
      have h2 := hrest _ _ this.symm
      exact h2

/-- one deferred call on the way out, its end told outright -/
theorem Lv.step {rs : List ResultVar} {Sr : Value → List HP → Prop} {Sp : List PanicEntry → List HP → Prop} {F : HP} {f : FuncId} {cap args : Array Value} {as : Array Value} {ds : List Deferred} {u u1 : FrameMode} {ρ : Env} {L Ps G L1 : List HP} {rv : Value} [hb : HB Pr f]
    (hc : CallDR Pr B f as u (Ps ++ G) (fun e' u' L' => e' = .returned rv ∧ u' = u1 ∧ L' = L1)) (ha : args ++ cap = as) (hu : u ≠ .run) (s : Spl L Ps G) (h : Lv Pr B rs Sr Sp F ds (settle u1) ρ L1) : Lv Pr B rs Sr Sp F ({ target := .fn (.func f) cap, args := args } :: ds) u ρ L := by
  refine ⟨hu, .inr ⟨f, cap, _, rfl, hb, (fun w hw => ha ▸ hc w (hw.perm s.perm)), ?_⟩⟩
  · rintro e u' L' ⟨rfl, rfl, rfl⟩; exact h

end Go.Proofs.YtbgkljpbemehiaaGreat.Sx
