/- A law whose run with known values is well: what the row asks of its call. No condition. -/
import Derived.Test.YtbgkljpbemehiaaGreatVA
import Derived.ProofKit
namespace Go.Proofs.YtbgkljpbemehiaaGreat.Sx
open Go.ChangeShapes Go.WideShapes Go.ChangeAt Go.RowKit

variable {P : Program}

/-- A cell that fits a type is one cell. -/
theorem one_of_okWide {w : World} {r : Reach} {b : Nat} {t : TypeId} {v : Value} (h : Cell.okWide P w r b t v) : v.oneCell' = true := by
  unfold Cell.okWide at h
  split at h
  all_goals first | rfl | skip
  unfold Cell.ok at h
  split at h
  all_goals first | rfl | exact h.elim

/-- The value that a parameter of a type holds, by cells that nothing is known of; and how many there are. -/
def shp1 (P : Program) (t : TypeId) (i : Nat) : V × Nat :=
  match P.underlying t with
  | some (.struct _) | some (.array _ _) => (.agg ((List.range (P.cellsOf t)).map fun j => .opq (i + j)), P.cellsOf t)
  | _ => (.opq i, 1)
def shpL (P : Program) : List TypeId → Nat → List V
  | [], _ => []
  | t :: ts, i => (shp1 P t i).1 :: shpL P ts (i + (shp1 P t i).2)

theorem denL_range (ω0 ω2 : List Value) : ∀ (cs : List Value) (i : Nat), i = ω0.length → (∀ v ∈ cs, v.oneCell' = true) →
    DenL (ω0 ++ cs ++ ω2) [] ((List.range cs.length).map fun j => V.opq (i + j)) cs := by
  intro cs
  suffices h : ∀ (n : Nat) (ds es : List Value), cs = ds ++ es → n = ds.length → (∀ v ∈ es, v.oneCell' = true) → ∀ i, i = ω0.length → DenL (ω0 ++ cs ++ ω2) [] ((List.range' n es.length).map fun j => V.opq (i + j)) es by
    intro i hi h1
    rw [List.range_eq_range']
    exact h 0 [] cs rfl rfl h1 i hi
  intro n ds es
  induction es generalizing n ds with
  | nil => intro _ _ _ _ _; simp [DenL]
  | cons e es ih =>
    intro hcs hn h1 i hi
    rw [List.length_cons, List.range'_succ, List.map_cons]
    refine DenL.cons_iff.2 ⟨e, es, rfl, ?_, ?_⟩
    · simp only [Den]
      refine ⟨?_, h1 e (by simp)⟩
      subst hi hn hcs
      simp [List.append_assoc]
    · exact ih (n + 1) (ds ++ [e]) (by rw [hcs]; simp) (by rw [hn]; simp) (fun v hv => h1 v (by simp [hv])) i hi

theorem shp1_ok {w : World} {r : Reach} {b : Nat} {t : TypeId} {v : Value} (h : Value.okWide P w r b t v) (ω0 : List Value) :
    ∃ ω1, ω1.length = (shp1 P t ω0.length).2 ∧ ∀ ω2, Den (ω0 ++ ω1 ++ ω2) [] (shp1 P t ω0.length).1 v := by
  unfold Value.okWide at h
  unfold shp1
  split at h
  · rename_i s hs
    obtain ⟨cs, rfl, hsz, ts, _, _, hall⟩ := h
    simp only [hs]
    refine ⟨cs.toList, by simpa using hsz, fun ω2 => ?_⟩
    simp only [Den]
    refine ⟨cs.toList, rfl, ?_⟩
    have := denL_range ω0 ω2 cs.toList ω0.length rfl (fun v hv => by
      obtain ⟨i, hi, e⟩ := List.getElem_of_mem hv
      obtain ⟨u, _, ho⟩ := hall i v (by rw [← e]; simp at hi; simp [hi])
      exact one_of_okWide ho)
    rw [← hsz]
    simpa using this
  · rename_i n e hs
    obtain ⟨cs, rfl, hsz, ts, _, _, hall⟩ := h
    simp only [hs]
    refine ⟨cs.toList, by simpa using hsz, fun ω2 => ?_⟩
    simp only [Den]
    refine ⟨cs.toList, rfl, ?_⟩
    have := denL_range ω0 ω2 cs.toList ω0.length rfl (fun v hv => by
      obtain ⟨i, hi, e⟩ := List.getElem_of_mem hv
      obtain ⟨u, _, ho⟩ := hall i v (by rw [← e]; simp at hi; simp [hi])
      exact one_of_okWide ho)
    rw [← hsz]
    simpa using this
  · rename_i h1 h2
    split
    · rename_i s hs; exact absurd hs (h1 s)
    · rename_i n e hs; exact absurd hs (h2 n e)
    · refine ⟨[v], rfl, fun ω2 => ?_⟩
      simp only [Den]
      exact ⟨by simp, one_of_okWide h⟩

theorem shpL_ok {w : World} {r : Reach} {b : Nat} : ∀ (ts : List TypeId) (vs : List Value), vs.length = ts.length → (∀ (j : Nat) t v, ts[j]? = some t → vs[j]? = some v → Value.okWide P w r b t v) → ∀ ω0 : List Value,
    ∃ ω1, DenL (ω0 ++ ω1) [] (shpL P ts ω0.length) vs
  | [], [], _, _, _ => ⟨[], by simp [shpL, DenL]⟩
  | t :: ts, v :: vs, hl, h, ω0 => by
    obtain ⟨ωa, ha, hv⟩ := shp1_ok (h 0 t v rfl rfl) ω0
    obtain ⟨ωb, hb⟩ := shpL_ok ts vs (by simpa using hl) (fun j t' v' e1 e2 => h (j + 1) t' v' (by simpa using e1) (by simpa using e2)) (ω0 ++ ωa)
    refine ⟨ωa ++ ωb, ?_⟩
    unfold shpL
    refine DenL.cons_iff.2 ⟨v, vs, rfl, ?_, ?_⟩
    · have := hv ωb
      simpa [List.append_assoc] using this
    · rw [List.length_append, ha] at hb
      simpa [List.append_assoc] using hb

def isT : V → Bool | .bool true => true | _ => false

/-- The call of a law whose run is well: it returns true, and below the heap's old end nothing has turned. -/
theorem calls_true {k F : Nat} {ts : List TypeId} (hmix : P.follows .mixedOrders = true) (hg : goodA P isT k F (shpL P ts 0) = true) {W : World} {base : Nat} {args : Array Value} (hl : args.size = ts.length)
    (hval : ∀ (j : Nat) t v, ts[j]? = some t → args[j]? = some v → Value.okWide P W .any base t v) :
    Calls P F args W fun e W' => e = .returned (.bool true) ∧ Below W.heap.size W W' := by
  obtain ⟨ω, hd⟩ := shpL_ok (w := W) (r := .any) (b := base) ts args.toList (by simpa using hl) (fun j t v e1 e2 => hval j t v e1 (by simpa using e2)) []
  have := goodA_ok (ω := [] ++ ω) hmix hg W hd
  refine Calls.mono this fun e W' h => ?_
  obtain ⟨x, v, β, he, hv, hx, hk⟩ := h
  refine ⟨?_, hk.os, hk.tape, hk.output, hk.size, hk.old⟩
  unfold isT at hv
  split at hv
  · simp only [Den] at hx; rw [he, hx]
  · cases hv

/-- Arguments read behind the call as before it. -/
theorem trodAll_stays {H : Type} {enc : TypeId × Value → H} (hl : laidOutB P = true) {W W' : World} (hb : Below W.heap.size W W') {sp : Nat → Bool} : ∀ {ts : List TypeId} {vs : List Value} {ds : List (DataW H)} {ps : List MemPlace},
    (ts.all fun t => P.readableRec t && decide (t < P.types.size)) = true → DataW.TrodAll enc P W 0 (fun _ => true) true ts vs ds ps → (∀ p ∈ ps, p.block < W.heap.size) → (∀ p ∈ ps, sp p.block = true) → DataW.TrodAll enc P W' 0 sp true ts vs ds ps
  | [], [], [], _, _, h, _, _ => h
  | _ :: _, _ :: _, _ :: _, _, hr, ⟨p, q, h1, h2, e⟩, hlt, hs => by
    simp only [List.all_cons, Bool.and_eq_true, decide_eq_true_eq] at hr
    exact ⟨p, q, WideElems.Trod_stays hl hr.1.1 hr.1.2 h1 (fun x hx => hb.same (hlt x (by rw [e]; exact List.mem_append_left _ hx))) (fun x hx => hs x (by rw [e]; exact List.mem_append_left _ hx)),
      trodAll_stays hl hb (by simpa using hr.2) h2 (fun x hx => hlt x (by rw [e]; exact List.mem_append_right _ hx)) (fun x hx => hs x (by rw [e]; exact List.mem_append_right _ hx)), e⟩

variable {H : Type} {enc : TypeId × Value → H}
theorem post_below {f : Func} {s : ChangeSpec} {apart fresh handsOn again : Bool} {W W' : World} {args : Array Value} {v : Value} {ds gs : List (DataW H)} {before pa pv : List MemPlace}
    (hW : DataW.Whole enc P f.params.toList s.vars apart W args.toList ds gs before)
    (hres : ∀ (b : Nat) (sp : Nat → Bool) (hd : Bool), DataW.TrodAll enc P W' b sp hd f.resultTypes.toList (v.resultList f.resultTypes.size) (s.fn H (ds ++ gs)).results [])
    (hargs : ∀ sp : Nat → Bool, (∀ p ∈ before, sp p.block = true) → DataW.TrodAll enc P W' 0 sp true f.params.toList args.toList (s.fn H (ds ++ gs)).args pa)
    (hvars : ∀ sp : Nat → Bool, (∀ p ∈ before, sp p.block = true) → DataW.TrodVars enc P W' sp s.vars (s.fn H (ds ++ gs)).vars pv)
    (hps : before = pa ++ pv) (hb : Below W.heap.size W W')
    (hok : ∀ (j : Nat) (t : TypeId) (r : Value), f.resultTypes[j]? = some t → (v.resultList f.resultTypes.size)[j]? = some r → Value.okWide P W' .any 0 t r) :
    s.post enc P f apart fresh handsOn again W args v W' := by
  have hold : ∀ p ∈ before, (fun b => decide (b < W.heap.size)) p.block = true := fun p hp => by simpa using hW.lt p hp
  have hlt : ∀ p ∈ before, p.block < W.heap.size := fun p hp => by simpa using hW.lt p hp
  refine ⟨ds, gs, before, [], pa, pv, hW, hres _ _ _, hargs _ hold, hvars _ hold, hb.frame _, fun _ => ?_⟩
  obtain ⟨_, _, _, _, _, hz, hn⟩ := hW
  refine ⟨hok, _, _, ([] ++ pa) ++ pv, ⟨[] ++ pa, pv, trodAll_append (hargs _ (fun _ _ => rfl)) (hres _ _ _), hvars _ (fun _ _ => rfl), rfl, ?_, ?_⟩, ?_⟩
  · intro b off hp
    have hp' : MemPlace.cell b off ∈ before := by rw [hps]; simpa using hp
    rw [hb.frozen (hlt _ hp')]
    exact hz b off hp'
  · intro ha
    have := hn ha
    rw [hps] at this
    simpa using this
  · intro p hp _
    rw [hps]
    simpa using hp

/-- THE ROW's contract of a law that names no variable: it returns true, and the arguments read as they did. -/
theorem contract_true {fn : Func} {s : ChangeSpec} {k F : Nat} {rt : TypeId} (hmix : P.follows .mixedOrders = true) (hlaid : laidOutB P = true) (hrd : (fn.params.toList.all fun t => P.readableRec t && decide (t < P.types.size)) = true)
    (hv : s.vars = []) (hrt : fn.resultTypes = #[rt]) (hrb : P.underlying rt = some .bool) (hsp : ∀ ds : List (DataW H), ds.length = fn.params.size → s.fn H (ds ++ []) = { results := [.lit (.bool true)], args := ds, vars := [] })
    (hg : goodA P isT k F (shpL P fn.params.toList 0) = true) {W : World} {base : Nat} {args : Array Value} {ds gs : List (DataW H)} {before : List MemPlace}
    (hval : ∀ (j : Nat) t v, fn.params[j]? = some t → args[j]? = some v → Value.okWide P W .any base t v)
    (hW : DataW.Whole enc P fn.params.toList s.vars false W args.toList ds gs before) :
    Calls P F args W fun e W' => ∃ v, e = .returned v ∧ s.post enc P fn false true false false W args v W' := by
  have hW' := hW
  obtain ⟨p, q, hA, hV, hpq, hfz, hnd⟩ := hW
  rw [hv] at hV
  obtain ⟨rfl, rfl⟩ := trodVars_none hV
  have hlen : args.size = fn.params.toList.length ∧ ds.length = fn.params.toList.length := by
    have : ∀ {ts : List TypeId} {vs : List Value} {ds : List (DataW H)} {ps : List MemPlace}, DataW.TrodAll enc P W 0 (fun _ => true) true ts vs ds ps → vs.length = ts.length ∧ ds.length = ts.length := by
      intro ts
      induction ts with
      | nil => intro vs ds ps h; match vs, ds, h with | [], [], _ => exact ⟨rfl, rfl⟩
      | cons t ts ih => intro vs ds ps h; match vs, ds, h with | v :: vs, d :: ds, ⟨p, q, _, h2, _⟩ => have := ih h2; simp [this.1, this.2]
    simpa using this hA
  refine (calls_true hmix hg hlen.1 (fun j t v e1 e2 => hval j t v (by simpa using e1) e2)).mono fun e W' ⟨he, hb⟩ => ?_
  subst he
  have hlt : ∀ x ∈ before, x.block < W.heap.size := fun x hx => by simpa using hW'.lt x hx
  have hpq' : before = p := by rw [hpq]; simp
  refine ⟨_, rfl, post_below (pa := p) (pv := []) hW' ?_ ?_ ?_ (by rw [hpq]) hb ?_⟩
  · intro b sp hd
    rw [hsp ds (by simpa using hlen.2), hrt]
    exact trodAll_mk1 (shut_bool hrb true)
  · intro sp hs
    rw [hsp ds (by simpa using hlen.2)]
    rw [← hpq']
    rw [← hpq'] at hA
    exact trodAll_stays hlaid hb hrd hA hlt hs
  · intro sp hs
    rw [hsp ds (by simpa using hlen.2), hv]
    exact rfl
  · exact ok_one hrt rfl (okWide_bool_mk hrb true)
end Go.Proofs.YtbgkljpbemehiaaGreat.Sx
