/- Regions whose order is drawn: what any order keeps to. No condition. -/
import Derived.Test.YtbgkljpbemehiaaGreatS0
import Derived.Orders
namespace Go.Proofs.YtbgkljpbemehiaaGreat.Sx

def pureOp : Op → Bool
  | .move _ | .pick .. | .fieldAddr .. | .load .. | .nilCheck _ | .binOp .. | .unOp .. | .convert .. | .extract .. | .field .. | .index .. | .indexAddr .. | .slice .. | .build .. | .makeFunc .. | .makeInterface .. => true
  | .call { callee := .builtin .len, .. } | .call { callee := .builtin .min, .. } | .call { callee := .builtin .max, .. } => true
  | _ => false
/-- what makes a new block, and no more -/
def newOp : Op → Bool
  | .alloc .. | .box .. | .makeSlice .. | .buildSlice .. | .makeMap .. => true
  | _ => false
def pendOp (o : Op) : Bool := pureOp o || newOp o
theorem pend_pure {o : Op} (h : pureOp o = true) : pendOp o = true := by rw [pendOp, h, Bool.true_or]
def isSel : Op → Bool
  | .select .. => true
  | _ => false

def edgeMask (ms : List Nat) (o : Oper) : Nat := o.after.toList.foldl (fun s e => bif Region.binds .any e then s ||| 2 ^ e.on ||| ms.getD e.on 0 else s) 0

/-- what is asked of the operations and of the numbers that tell which come ahead of which -/
structure DrOk (ops : Array Oper) (ms : List Nat) : Prop where
  mask : ∀ (j : Nat) o, ops[j]? = some o → ms.getD j 0 = edgeMask ms o
  low : ∀ (j : Nat) o, ops[j]? = some o → ∀ e ∈ o.after, Region.binds .any e = true → e.on < j
  irr : ∀ j : Nat, j < ops.size → (ms.getD j 0).testBit j = false
  reads : ∀ (j : Nat) o (i : Nat) p t, ops[j]? = some o → ops[i]? = some p → pendOp p.op = true → p.dst = some t → t ∈ o.looksAt ops → (ms.getD j 0).testBit i = true
  dst1 : ∀ (j : Nat) o (i : Nat) p t, ops[j]? = some o → ops[i]? = some p → pendOp p.op = true → p.dst = some t → i ≠ j → o.dst ≠ some t
  sel : ∀ (j : Nat) o, ops[j]? = some o → isSel o.op = false

def allI (l : List Oper) (f : Nat → Oper → Bool) (i : Nat := 0) : Bool := match l with
  | [] => true
  | o :: l => f i o && allI l f (i + 1)
theorem allI_ok {f : Nat → Oper → Bool} : ∀ {l : List Oper} {i : Nat}, allI l f i = true → ∀ (j : Nat) o, l[j]? = some o → f (i + j) o = true
  | [], _, _, j, o, h => by simp at h
  | x :: l, i, h, j, o, hj => by
    simp only [allI, Bool.and_eq_true] at h
    cases j with
    | zero => simp at hj; subst hj; exact h.1
    | succ j => simp at hj; have := allI_ok h.2 j o hj; rwa [show i + (j + 1) = i + 1 + j by omega]

def drOk (ops : Array Oper) (ms : List Nat) (todo : List Nat) : Bool :=
  let l := ops.toList
  allI l (fun j o => Nat.beq (ms.getD j 0) (edgeMask ms o) && o.after.toList.all (fun e => !Region.binds .any e || Nat.blt e.on j) && !(ms.getD j 0).testBit j && !isSel o.op) &&
  allI l (fun i p => !pendOp p.op || (match p.dst with
    | none => true
    | some t => allI l (fun j o => (!(o.looksAt ops).elem t || (ms.getD j 0).testBit i) && (Nat.beq i j || (match o.dst with | some u => !Nat.beq t u | none => true))))) &&
  (List.range ops.size).all (fun j => todo.elem j) && todo.all (fun j => Nat.blt j ops.size) && decide todo.Nodup

theorem drOk_ok {ops : Array Oper} {ms todo : List Nat} (h : drOk ops ms todo = true) : DrOk ops ms ∧ (∀ j, j < ops.size → j ∈ todo) ∧ (∀ j ∈ todo, j < ops.size) ∧ todo.Nodup := by
  simp only [drOk, Bool.and_eq_true] at h
  obtain ⟨⟨⟨⟨h1, h2⟩, h3⟩, h4⟩, h5⟩ := h
  have e1 : ∀ (j : Nat) o, ops[j]? = some o → _ := fun j o hj => by
    have := allI_ok h1 j o (by simpa using hj)
    simp only [Nat.zero_add, Bool.and_eq_true] at this
    exact this
  have e2 : ∀ (i : Nat) p, ops[i]? = some p → pendOp p.op = true → ∀ t, p.dst = some t → ∀ (j : Nat) o, ops[j]? = some o → (!(o.looksAt ops).elem t || (ms.getD j 0).testBit i) = true ∧ (Nat.beq i j || (match o.dst with | some u => !Nat.beq t u | none => true)) = true := fun i p hi hp t ht j o hj => by
    have := allI_ok h2 i p (by simpa using hi)
    simp only [Nat.zero_add, hp, ht, Bool.not_true, Bool.false_or] at this
    have := allI_ok this j o (by simpa using hj)
    simp only [Nat.zero_add, Bool.and_eq_true] at this
    exact this
  refine ⟨⟨?_, ?_, ?_, ?_, ?_, ?_⟩, ?_, ?_, by simpa using h5⟩
  · intro j o hj; exact Nat.eq_of_beq_eq_true (e1 j o hj).1.1.1
  · intro j o hj e he hb
    have := (e1 j o hj).1.1.2
    rw [List.all_eq_true] at this
    have := this e (by simpa using he)
    simp only [hb, Bool.not_true, Bool.false_or, Nat.blt_eq] at this
    exact this
  · intro j hj
    obtain ⟨o, ho⟩ : ∃ o, ops[j]? = some o := ⟨_, Array.getElem?_eq_getElem hj⟩
    have := (e1 j o ho).1.2
    simpa using this
  · intro j o i p t hj hi hp ht hl
    have := (e2 i p hi hp t ht j o hj).1
    have e : (o.looksAt ops).elem t = true := List.elem_eq_true_of_mem hl
    rw [e, Bool.not_true, Bool.false_or] at this
    exact this
  · intro j o i p t hj hi hp ht hne he
    have := (e2 i p hi hp t ht j o hj).2
    have e : Nat.beq i j = false := by
      cases e : Nat.beq i j with
      | false => rfl
      | true => exact absurd (Nat.eq_of_beq_eq_true e) hne
    rw [e, he] at this
    simp at this
  · intro j o hj
    have := (e1 j o hj).2
    simpa using this
  · intro j hj
    rw [List.all_eq_true] at h3
    exact List.mem_of_elem_eq_true (h3 j (by simpa using hj))
  · intro j hj
    rw [List.all_eq_true] at h4
    simpa [Nat.blt_eq] using h4 j hj

theorem testBit_two (i j : Nat) : (2 ^ i).testBit j = true ↔ i = j := by rw [Nat.testBit_two_pow]; simp
theorem edgeMask_bit {ms : List Nat} {o : Oper} {l : Nat} (h : (edgeMask ms o).testBit l = true) : ∃ e ∈ o.after, Region.binds .any e = true ∧ (l = e.on ∨ (ms.getD e.on 0).testBit l = true) := by
  have key : ∀ (es : List Edge) (s : Nat), (es.foldl (fun s e => bif Region.binds .any e then s ||| 2 ^ e.on ||| ms.getD e.on 0 else s) s).testBit l = true →
      s.testBit l = true ∨ ∃ e ∈ es, Region.binds .any e = true ∧ (l = e.on ∨ (ms.getD e.on 0).testBit l = true) := by
    intro es
    induction es with
    | nil => intro s h; exact .inl h
    | cons e es ih =>
      intro s h
      simp only [List.foldl_cons] at h
      rcases ih _ h with h | ⟨e', h1, h2⟩
      · cases hb : Region.binds .any e with
        | false => rw [hb] at h; exact .inl h
        | true =>
          simp only [hb, cond_true, Nat.testBit_or, Bool.or_eq_true] at h
          rcases h with (h | h) | h
          · exact .inl h
          · exact .inr ⟨e, by simp, hb, .inl ((testBit_two _ _).1 h).symm⟩
          · exact .inr ⟨e, by simp, hb, .inr h⟩
      · exact .inr ⟨e', by simp [h1], h2⟩
  rcases key _ _ h with h | ⟨e, h1, h2⟩
  · simp at h
  · exact ⟨e, by simpa using h1, h2⟩

def Topo (ms : List Nat) : List Nat → Prop
  | [] => True
  | j :: r => (∀ l ∈ r, (ms.getD j 0).testBit l = false) ∧ Topo ms r

/-- what is left of a drawn order -/
structure Rem (ops : Array Oper) (ms todo : List Nat) (pend : List (Nat × Nat × Value)) (r : List Nat) : Prop where
  ok : DrOk ops ms
  bnd : ∀ j ∈ r, j < ops.size
  sub : ∀ j ∈ r, j ∈ todo ∨ j ∈ pend.map (·.1)
  all : ∀ j ∈ todo, j ∈ r
  nd : r.Nodup
  nd2 : (todo ++ pend.map (·.1)).Nodup
  topo : Topo ms r
  closed : ∀ x, x < ops.size → x ∉ r → ∀ l, (ms.getD x 0).testBit l = true → l ∉ r
  pd : ∀ p ∈ pend, ∃ o, ops[p.1]? = some o ∧ o.dst = some p.2.1 ∧ pendOp o.op = true

variable {ops : Array Oper} {ms todo : List Nat} {pend : List (Nat × Nat × Value)} {r : List Nat}

theorem Rem.toPend {i s : Nat} {v : Value} {o : Oper} (h : Rem ops ms (i :: todo) pend r) (ho : ops[i]? = some o) (hd : o.dst = some s) (hp : pendOp o.op = true) : Rem ops ms todo ((i, s, v) :: pend) r :=
  ⟨h.ok, h.bnd, fun j hj => by
    rcases h.sub j hj with h | h
    · rcases List.mem_cons.1 h with rfl | h
      · exact .inr (by simp)
      · exact .inl h
    · exact .inr (List.mem_cons_of_mem _ h), fun j hj => h.all j (List.mem_cons_of_mem _ hj), h.nd, by
      have := h.nd2
      simp only [List.map_cons]
      exact (List.perm_middle.nodup_iff).2 (by simpa using this), h.topo, h.closed, fun p hp' => by
      rcases List.mem_cons.1 hp' with rfl | hp'
      · exact ⟨o, ho, hd, hp⟩
      · exact h.pd p hp'⟩

/-- one that is known is run -/
theorem Rem.pop {j : Nat} (h : Rem ops ms todo pend (j :: r)) (hj : j ∉ todo) : Rem ops ms todo pend r :=
  ⟨h.ok, fun x hx => h.bnd x (by simp [hx]), fun x hx => h.sub x (by simp [hx]), fun x hx => by
    rcases List.mem_cons.1 (h.all x hx) with rfl | hh
    · exact absurd hx hj
    · exact hh, (List.nodup_cons.1 h.nd).2, h.nd2, h.topo.2, fun x hx hxr l hl hlr => by
    by_cases e : x = j
    · subst e
      rw [h.topo.1 l hlr] at hl; cases hl
    · exact h.closed x hx (by simp [e, hxr]) l hl (by simp [hlr]), h.pd⟩

theorem Rem.take {i : Nat} {pend2 : List (Nat × Nat × Value)} (h : Rem ops ms (i :: todo) pend (i :: r)) (hs : pend2.Sublist pend) (hm : ∀ p ∈ pend, p ∉ pend2 → (ms.getD i 0).testBit p.1 = true) : Rem ops ms todo pend2 r := by
  have hni : i ∉ todo := (List.nodup_cons.1 (by simpa using h.nd2 : (i :: (todo ++ pend.map (·.1))).Nodup)).1 |> fun x => by simpa using fun hh => x (by simp [hh])
  refine ⟨h.ok, fun x hx => h.bnd x (by simp [hx]), fun j hj => ?_, fun x hx => ?_, (List.nodup_cons.1 h.nd).2, ?_, h.topo.2, fun x hx hxr l hl hlr => ?_, fun p hp => h.pd p (hs.subset hp)⟩
  · have hij : j ≠ i := by rintro rfl; exact (List.nodup_cons.1 h.nd).1 hj
    rcases h.sub j (by simp [hj]) with hh | hh
    · exact .inl ((List.mem_cons.1 hh).resolve_left hij)
    · obtain ⟨p, hp, rfl⟩ := List.mem_map.1 hh
      by_cases hin : p ∈ pend2
      · exact .inr (List.mem_map.2 ⟨p, hin, rfl⟩)
      · have := h.topo.1 p.1 hj
        rw [hm p hp hin] at this; cases this
  · rcases List.mem_cons.1 (h.all x (by simp [hx])) with rfl | hh
    · exact absurd hx hni
    · exact hh
  · have h1 : (todo ++ pend.map (·.1)).Nodup := (List.nodup_cons.1 (by simpa using h.nd2 : (i :: (todo ++ pend.map (·.1))).Nodup)).2
    exact h1.sublist (List.Sublist.append (List.Sublist.refl _) (hs.map _))
  · by_cases e : x = i
    · subst e
      rw [h.topo.1 l hlr] at hl; cases hl
    · exact h.closed x hx (by simp [e, hxr]) l hl (by simp [hlr])

/-- who comes next is known, or is the one that all others wait for -/
theorem Rem.next {i j : Nat} (h : Rem ops ms (i :: todo) pend (j :: r)) (hc : ∀ x ∈ todo, (ms.getD x 0).testBit i = true) : j = i ∨ (j ∉ i :: todo ∧ ∃ p ∈ pend, p.1 = j) := by
  by_cases e : j = i
  · exact .inl e
  · right
    have hir : i ∈ r := by
      have := h.all i (by simp)
      exact (List.mem_cons.1 this).resolve_left (fun x => e x.symm)
    have hnt : j ∉ todo := fun hh => by
      have := h.topo.1 i hir
      rw [hc j hh] at this; cases this
    refine ⟨by simp [e, hnt], ?_⟩
    rcases h.sub j (by simp) with hh | hh
    · rcases List.mem_cons.1 hh with hh | hh
      · exact absurd hh e
      · exact absurd hh hnt
    · obtain ⟨p, hp, hpe⟩ := List.mem_map.1 hh; exact ⟨p, hp, hpe⟩

/-- any order of the operations -/
def unl (n : Nat) (listed : Array Bool) : Nat := ((List.range n).filter fun j => !listed.getD j true).length

theorem ready_of (hok : DrOk ops ms) {listed : Array Bool} (hsz : listed.size = ops.size) : ∀ j, j < ops.size → listed.getD j true = false → ∃ i, i ∈ Region.ready .any ops listed := by
  intro j
  induction j using Nat.strongRecOn with
  | _ j ih =>
    intro hj hl
    by_cases h : ∃ i, i < j ∧ listed.getD i true = false
    · obtain ⟨i, h1, h2⟩ := h
      exact ih i h1 (by omega) h2
    · refine ⟨j, mem_ready.2 ⟨hl, _, Array.getElem?_eq_getElem hj, fun e he hb => ?_⟩⟩
      have hlt := hok.low j _ (Array.getElem?_eq_getElem hj) e he hb
      have : ¬ listed.getD e.on true = false := fun hh => h ⟨_, hlt, hh⟩
      rw [Array.getD_eq_getD_getElem?, Array.getElem?_eq_getElem (by omega)] at this ⊢
      simpa using this

theorem set_getD {listed : Array Bool} {i j : Nat} {d : Bool} (h : i < listed.size) : (listed.setIfInBounds i true).getD j d = if j = i then true else listed.getD j d := by
  by_cases e : j = i
  · subst e; simp [Array.getD_eq_getD_getElem?, h]
  · simp only [if_neg e]
    exact getD_set_ne d (Ne.symm e)

theorem order_ok (hok : DrOk ops ms) : ∀ (fuel t : Nat) (listed : Array Bool), listed.size = ops.size → unl ops.size listed ≤ fuel →
    (∀ x, listed.getD x false = true → ∀ l, (ms.getD x 0).testBit l = true → listed.getD l false = true) →
    (∀ j ∈ Region.linearise.go .any ops fuel t listed [], j < ops.size ∧ listed.getD j true = false) ∧
    (∀ j, j < ops.size → listed.getD j true = false → j ∈ Region.linearise.go .any ops fuel t listed []) ∧
    (Region.linearise.go .any ops fuel t listed []).Nodup ∧ Topo ms (Region.linearise.go .any ops fuel t listed []) := by
  intro fuel
  induction fuel with
  | zero =>
    intro t listed hsz hu hc
    simp only [Region.linearise.go, List.reverse_nil]
    refine ⟨by simp, fun j hj hl => ?_, List.nodup_nil, trivial⟩
    have : j ∈ (List.range ops.size).filter fun j => !listed.getD j true := by simp only [List.mem_filter, List.mem_range]; exact ⟨hj, by simp only [hl, Bool.not_false]⟩
    rw [List.eq_nil_of_length_eq_zero (Nat.le_zero.1 hu)] at this
    cases this
  | succ fuel ih =>
    intro t listed hsz hu hc
    have hgo : Region.linearise.go .any ops (fuel + 1) t listed [] = match (Region.ready .any ops listed)[t % (Region.ready .any ops listed).length]? with
      | some i => Region.linearise.go .any ops fuel (t / (Region.ready .any ops listed).length) (listed.setIfInBounds i true) [i]
      | none => [] := rfl
    rw [hgo]
    cases hi : (Region.ready .any ops listed)[t % (Region.ready .any ops listed).length]? with
    | none =>
      have hnil : Region.ready .any ops listed = [] := by
        cases hr : Region.ready .any ops listed with
        | nil => rfl
        | cons x xs =>
          rw [hr] at hi
          have hlt : t % (x :: xs).length < (x :: xs).length := Nat.mod_lt _ (by simp)
          simp at hi
          simp at hlt
          omega
      refine ⟨by simp, fun j hj hl => ?_, List.nodup_nil, trivial⟩
      obtain ⟨i, h⟩ := ready_of hok hsz j hj hl
      rw [hnil] at h; cases h
    | some i =>
      simp only []
      rw [linearise_go_acc, List.reverse_singleton, List.singleton_append]
      obtain ⟨hli, o, ho, hready⟩ := mem_ready.1 (List.mem_of_getElem? hi)
      have hin : i < ops.size := (Array.getElem?_eq_some_iff.1 ho).1
      have hmask : ∀ l, (ms.getD i 0).testBit l = true → listed.getD l false = true := by
        intro l hl
        rw [hok.mask i o ho] at hl
        obtain ⟨e, h1, h2, h3⟩ := edgeMask_bit hl
        have := hready e h1 h2
        rcases h3 with rfl | h3
        · exact this
        · exact hc _ this _ h3
      obtain ⟨a1, a2, a3, a4⟩ := ih (t / (Region.ready .any ops listed).length) (listed.setIfInBounds i true) (by simpa using hsz) (by
        unfold unl at hu ⊢
        have : ((List.range ops.size).filter fun j => !(listed.setIfInBounds i true).getD j true) = ((List.range ops.size).filter fun j => !listed.getD j true).filter (fun j => j != i) := by
          rw [List.filter_filter]
          apply List.filter_congr
          intro j _
          rw [set_getD (by omega)]
          by_cases e : j = i
          · subst e; simp
          · simp [e]
        rw [this]
        have hmem : i ∈ (List.range ops.size).filter fun j => !listed.getD j true := by simp only [List.mem_filter, List.mem_range]; exact ⟨hin, by simp only [hli, Bool.not_false]⟩
        have hnd : ((List.range ops.size).filter fun j => !listed.getD j true).Nodup := List.nodup_range.filter _
        rw [← List.Nodup.erase_eq_filter hnd, List.length_erase_of_mem hmem]
        omega) (by
        intro x hx l hl
        rw [set_getD (by omega)] at hx ⊢
        by_cases e : l = i
        · rw [if_pos e]
        · rw [if_neg e]
          by_cases e2 : x = i
          · subst e2; exact hmask l hl
          · rw [if_neg e2] at hx; exact hc x hx l hl)
      have hne : ∀ j, (listed.setIfInBounds i true).getD j true = false → j ≠ i ∧ listed.getD j true = false := by
        intro j hj
        rw [set_getD (by omega)] at hj
        by_cases e : j = i
        · rw [if_pos e] at hj; cases hj
        · rw [if_neg e] at hj; exact ⟨e, hj⟩
      refine ⟨?_, ?_, ?_, ?_⟩
      · intro j hj
        rcases List.mem_cons.1 hj with rfl | hj
        · exact ⟨hin, hli⟩
        · exact ⟨(a1 j hj).1, (hne j (a1 j hj).2).2⟩
      · intro j hj hl
        by_cases e : j = i
        · simp [e]
        · exact List.mem_cons_of_mem _ (a2 j hj (by rw [set_getD (by omega), if_neg e]; exact hl))
      · exact List.nodup_cons.2 ⟨fun hh => (hne i (a1 i hh).2).1 rfl, a3⟩
      · refine ⟨fun l hl => ?_, a4⟩
        cases hb : (ms.getD i 0).testBit l with
        | false => rfl
        | true =>
          have h1 := hmask l hb
          have h2 := (hne l (a1 l hl).2).2
          have h3 := (a1 l hl).1
          rw [Array.getD_eq_getD_getElem?, Array.getElem?_eq_getElem (by omega)] at h1 h2
          simp at h1 h2
          rw [h1] at h2; cases h2

theorem Rem.start (h : drOk ops ms todo = true) (t : Nat) : Rem ops ms todo [] (Region.schedule true ops t) := by
  obtain ⟨hok, h1, h2, h3⟩ := drOk_ok h
  have e : Region.schedule true ops t = Region.linearise.go .any ops ops.size t (Array.replicate ops.size false) [] := rfl
  have hget : ∀ j, (Array.replicate ops.size false).getD j false = false := by
    intro j; rw [Array.getD_eq_getD_getElem?, Array.getElem?_replicate]; split <;> rfl
  obtain ⟨a1, a2, a3, a4⟩ := order_ok hok ops.size t (Array.replicate ops.size false) (by simp) (by
    unfold unl; exact Nat.le_trans (List.length_filter_le _ _) (by simp)) (fun x hx => by rw [hget] at hx; cases hx)
  have hget2 : ∀ j, j < ops.size → (Array.replicate ops.size false).getD j true = false := by
    intro j hj; rw [Array.getD_eq_getD_getElem?, Array.getElem?_replicate, if_pos hj]; rfl
  rw [e]
  refine ⟨hok, fun j hj => (a1 j hj).1, fun j hj => .inl (h1 j (a1 j hj).1), fun j hj => a2 j (h2 j hj) (hget2 j (h2 j hj)), a3, by simpa using h3, a4, fun x hx hxr => absurd (a2 x hx (hget2 x hx)) hxr, by simp⟩

end Go.Proofs.YtbgkljpbemehiaaGreat.Sx
