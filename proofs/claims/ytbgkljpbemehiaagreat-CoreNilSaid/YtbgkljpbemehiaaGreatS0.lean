/- Small heaps, a star over lists of assertions on them, and what a world satisfies. No condition. -/
import Derived.Laws.Sem
import Derived.Laws.World
namespace Go.Proofs.YtbgkljpbemehiaaGreat.Sx

abbrev Hp := Nat → Option Obj
abbrev HP := Hp → Prop
def Hp.sub (h h' : Hp) : Prop := ∀ b o, h b = some o → h' b = some o
def Hp.dj (h h' : Hp) : Prop := ∀ b, h b = none ∨ h' b = none

def star : List HP → HP
  | [] => fun _ => True
  | P :: L => fun h => ∃ h1 h2, Hp.sub h1 h ∧ Hp.sub h2 h ∧ Hp.dj h1 h2 ∧ P h1 ∧ star L h2

/-- one block -/
def pt (b : Nat) (o : Obj) : HP := fun h => h b = some o
/-- one block of cells, not frozen -/
abbrev cl (b : Nat) (T : TypeId) (cs : List Value) : HP := pt b (.cells cs.toArray T (0, 0))

theorem Hp.sub_refl (h : Hp) : Hp.sub h h := fun _ _ x => x
theorem Hp.sub_trans {a b c : Hp} (h : Hp.sub a b) (k : Hp.sub b c) : Hp.sub a c := fun _ _ x => k _ _ (h _ _ x)

theorem star_sub {L : List HP} {h h' : Hp} (hs : Hp.sub h h') (k : star L h) : star L h' := by
  cases L with
  | nil => trivial
  | cons P L =>
    obtain ⟨h1, h2, a, b, c, d, e⟩ := k
    exact ⟨h1, h2, Hp.sub_trans a hs, Hp.sub_trans b hs, c, d, e⟩

theorem dj_comm {a b : Hp} (h : Hp.dj a b) : Hp.dj b a := fun x => (h x).symm
theorem dj_sub {a b a' : Hp} (h : Hp.dj a b) (s : Hp.sub a' a) : Hp.dj a' b := fun x => by
  rcases h x with h | h
  · left
    cases e : a' x with
    | none => rfl
    | some o => rw [s _ _ e] at h; cases h
  · exact .inr h

def Hp.un (a b : Hp) : Hp := fun x => match a x with | some o => some o | none => b x
theorem un_l (a b : Hp) : Hp.sub a (Hp.un a b) := fun x o h => by simp [Hp.un, h]
theorem un_r {a b : Hp} (d : Hp.dj a b) : Hp.sub b (Hp.un a b) := fun x o h => by
  rcases d x with e | e
  · simp [Hp.un, e, h]
  · rw [e] at h; cases h
theorem un_sub {a b c : Hp} (ha : Hp.sub a c) (hb : Hp.sub b c) : Hp.sub (Hp.un a b) c := fun x o h => by
  unfold Hp.un at h
  cases e : a x with
  | none => rw [e] at h; exact hb _ _ h
  | some o' => rw [e] at h; cases h; exact ha _ _ e
theorem un_dj {a b c : Hp} (ha : Hp.dj a c) (hb : Hp.dj b c) : Hp.dj (Hp.un a b) c := fun x => by
  rcases ha x with e | e
  · rcases hb x with f | f
    · left; simp [Hp.un, e, f]
    · exact .inr f
  · exact .inr e

theorem star_swap {P Q : HP} {L : List HP} {h : Hp} (k : star (P :: Q :: L) h) : star (Q :: P :: L) h := by
  obtain ⟨h1, h2, a, b, c, d, h3, h4, a', b', c', d', e'⟩ := k
  refine ⟨h3, Hp.un h1 h4, Hp.sub_trans a' b, un_sub a (Hp.sub_trans b' b), ?_, d', h1, h4, un_l _ _, un_r ?_, ?_, d, e'⟩
  · exact dj_comm (un_dj (dj_comm (dj_sub (dj_comm c) a')) (dj_comm c'))
  · exact dj_comm (dj_sub (dj_comm c) b')
  · exact dj_comm (dj_sub (dj_comm c) b')

theorem star_perm {L L' : List HP} (p : L.Perm L') : ∀ h, star L h → star L' h := by
  induction p with
  | nil => exact fun _ h => h
  | cons P _ ih => rintro h ⟨h1, h2, a, b, c, d, e⟩; exact ⟨h1, h2, a, b, c, d, ih _ e⟩
  | swap P Q L => exact fun h k => star_swap k
  | trans _ _ ih1 ih2 => exact fun h k => ih2 h (ih1 h k)

theorem star_append {L M : List HP} {h : Hp} : star (L ++ M) h ↔ ∃ h1 h2, Hp.sub h1 h ∧ Hp.sub h2 h ∧ Hp.dj h1 h2 ∧ star L h1 ∧ star M h2 := by
  induction L generalizing h with
  | nil =>
    constructor
    · intro k; exact ⟨fun _ => none, h, (by intro _ _ x; cases x), Hp.sub_refl _, fun _ => .inl rfl, trivial, k⟩
    · rintro ⟨h1, h2, _, b, _, _, e⟩; exact star_sub b e
  | cons P L ih =>
    constructor
    · rintro ⟨h1, h2, a, b, c, d, e⟩
      obtain ⟨h3, h4, a', b', c', d', e'⟩ := ih.1 e
      refine ⟨Hp.un h1 h3, h4, un_sub a (Hp.sub_trans a' b), Hp.sub_trans b' b, un_dj (dj_comm (dj_sub (dj_comm c) b')) c', ⟨h1, h3, un_l _ _, un_r ?_, ?_, d, d'⟩, e'⟩
      · exact dj_comm (dj_sub (dj_comm c) a')
      · exact dj_comm (dj_sub (dj_comm c) a')
    · rintro ⟨h1, h2, a, b, c, ⟨h3, h4, a', b', c', d', e'⟩, e⟩
      have d1 : Hp.dj h4 h2 := dj_sub c b'
      exact ⟨h3, Hp.un h4 h2, Hp.sub_trans a' a, un_sub (Hp.sub_trans b' a) b, dj_comm (un_dj (dj_comm c') (dj_comm (dj_sub c a'))), d', ih.2 ⟨h4, h2, un_l _ _, un_r d1, d1, e', e⟩⟩

/-- a star as one assertion of a list -/
theorem star_join {L M : List HP} {h : Hp} (k : star (L ++ M) h) : star (L ++ [star M]) h := by
  obtain ⟨h1, h2, a, b, c, d, e⟩ := star_append.1 k
  exact star_append.2 ⟨h1, h2, a, b, c, d, h2, fun _ => none, Hp.sub_refl _, (by intro _ _ x; cases x), fun _ => .inr rfl, e, trivial⟩
theorem star_split {L M : List HP} {h : Hp} (k : star (L ++ [star M]) h) : star (L ++ M) h := by
  obtain ⟨h1, h2, a, b, c, d, h3, h4, a', _, _, e, _⟩ := star_append.1 k
  exact star_append.2 ⟨h1, h2, a, b, c, d, star_sub a' e⟩

theorem star_mem {L : List HP} {P : HP} (m : P ∈ L) : ∀ {h}, star L h → ∃ h1, Hp.sub h1 h ∧ P h1 := by
  induction m with
  | head => rintro h ⟨h1, h2, a, b, c, d, e⟩; exact ⟨h1, a, d⟩
  | tail _ _ ih => rintro h ⟨h1, h2, a, b, c, d, e⟩; obtain ⟨h3, s, p⟩ := ih e; exact ⟨h3, Hp.sub_trans s b, p⟩

/-- L lies in h apart from the assertions of L': entailment -/
def Ent (L L' : List HP) : Prop := ∀ h, star L h → star L' h
theorem Ent.refl (L : List HP) : Ent L L := fun _ x => x
theorem Ent.trans {A B C : List HP} (h : Ent A B) (k : Ent B C) : Ent A C := fun x y => k x (h x y)
theorem Ent.perm {L L' : List HP} (p : L.Perm L') : Ent L L' := star_perm p
theorem Ent.cons {P : HP} {L L' : List HP} (k : Ent L L') : Ent (P :: L) (P :: L') := by
  rintro h ⟨h1, h2, a, b, c, d, e⟩; exact ⟨h1, h2, a, b, c, d, k _ e⟩
theorem Ent.append {L L' M M' : List HP} (k : Ent L L') (k' : Ent M M') : Ent (L ++ M) (L' ++ M') := fun h x => by
  obtain ⟨h1, h2, a, b, c, d, e⟩ := star_append.1 x
  exact star_append.2 ⟨h1, h2, a, b, c, k _ d, k' _ e⟩
theorem Ent.drop (P : HP) (L : List HP) : Ent (P :: L) L := by
  rintro h ⟨h1, h2, a, b, c, d, e⟩; exact star_sub b e

/-- L holds A, and L' is what is left -/
class Pick (L : List HP) (A : HP) (L' : outParam (List HP)) : Prop where
  perm : L.Perm (A :: L')
instance (priority := high) Pick.here (A : HP) (L : List HP) : Pick (A :: L) A L := ⟨.refl _⟩
instance Pick.there (A C : HP) (L L' : List HP) [h : Pick L A L'] : Pick (C :: L) A (C :: L') := ⟨(h.perm.cons C).trans (.swap _ _ _)⟩

/-- What a world satisfies: what was there when the law was called is as it was; the streams are as they were; apart from that the assertions of L. -/
structure St (B : World) (L : List HP) (w : World) : Prop where
  os : w.os = B.os
  tape : w.tape = B.tape
  output : w.output = B.output
  size : B.heap.size ≤ w.heap.size
  old : ∀ b, b < B.heap.size → w.heap[b]? = B.heap[b]?
  own : ∃ h : Hp, (∀ b o, h b = some o → B.heap.size ≤ b ∧ w.heap[b]? = some o) ∧ star L h

theorem St.ent {B w : World} {L L' : List HP} (k : St B L w) (e : Ent L L') : St B L' w :=
  ⟨k.os, k.tape, k.output, k.size, k.old, let ⟨h, a, b⟩ := k.own; ⟨h, a, e h b⟩⟩
theorem St.perm {B w : World} {L L' : List HP} (k : St B L w) (p : L.Perm L') : St B L' w := k.ent (.perm p)
theorem St.pick {B w : World} {L L' : List HP} {A : HP} (k : St B L w) [p : Pick L A L'] : St B (A :: L') w := k.perm p.perm

theorem St.drew {B w : World} {L : List HP} (k : St B L w) : St B L w.drew := ⟨k.os, k.tape, k.output, k.size, k.old, k.own⟩
theorem St.drawn {B w : World} {L : List HP} (k : St B L w) (n : Nat) : St B L { w with drawn := n } := ⟨k.os, k.tape, k.output, k.size, k.old, k.own⟩

theorem St.at {B w : World} {L : List HP} {b : Nat} {o : Obj} (k : St B (pt b o :: L) w) : B.heap.size ≤ b ∧ w.heap[b]? = some o := by
  obtain ⟨h, a, h1, h2, s, _, _, e, _⟩ := k.own
  exact a b o (s _ _ e)

theorem St.at_mem {B w : World} {L : List HP} {b : Nat} {o : Obj} (k : St B L w) (m : pt b o ∈ L) : B.heap.size ≤ b ∧ w.heap[b]? = some o := by
  obtain ⟨h, a, e⟩ := k.own
  obtain ⟨h1, s, p⟩ := star_mem m e
  exact a b o (s _ _ p)

/-- one block is turned -/
theorem St.put {B w w' : World} {L : List HP} {b : Nat} {o o' : Obj} (k : St B (pt b o :: L) w) (hos : w'.os = w.os) (ht : w'.tape = w.tape) (ho : w'.output = w.output)
    (hs : w'.heap.size = w.heap.size) (hb : w'.heap[b]? = some o') (hn : ∀ i, i ≠ b → w'.heap[i]? = w.heap[i]?) : St B (pt b o' :: L) w' := by
  have hlt := k.at
  obtain ⟨h, a, h1, h2, s1, s2, d, e, r⟩ := k.own
  refine ⟨hos.trans k.os, ht.trans k.tape, ho.trans k.output, hs ▸ k.size, fun i hi => ?_, ?_⟩
  · rw [hn i (by omega)]; exact k.old i hi
  · have n2 : h2 b = none := by
      rcases d b with x | x
      · have e' : h1 b = some o := e
        rw [e'] at x; cases x
      · exact x
    refine ⟨fun i => if i = b then some o' else h2 i, ?_, fun i => if i = b then some o' else none, h2, ?_, ?_, ?_, by simp [pt], r⟩
    · intro i x hx
      by_cases hi : i = b
      · subst hi; simp at hx; subst hx; exact ⟨hlt.1, hb⟩
      · simp [hi] at hx; rw [hn i hi]; exact a _ _ (s2 _ _ hx)
    · intro i x hx
      by_cases hi : i = b
      · simpa [hi] using hx
      · simp [hi] at hx
    · intro i x hx
      have : i ≠ b := by rintro rfl; rw [n2] at hx; cases hx
      simp [this, hx]
    · intro i
      by_cases hi : i = b
      · right; rw [hi]; exact n2
      · left; simp [hi]

theorem St.new {B w : World} {L : List HP} (k : St B L w) (o : Obj) : St B (pt w.heap.size o :: L) (w.alloc o) := by
  obtain ⟨h, a, r⟩ := k.own
  have hn : h w.heap.size = none := by
    cases e : h w.heap.size with
    | none => rfl
    | some x => have := (a _ _ e).2; simp at this
  refine ⟨k.os, k.tape, k.output, Nat.le_trans k.size (by simp), fun i hi => ?_, fun i => if i = w.heap.size then some o else h i, ?_, fun i => if i = w.heap.size then some o else none, h, ?_, ?_, ?_, by simp [pt], r⟩
  · have := k.size
    show (w.heap.push o)[i]? = _
    rw [Array.getElem?_push, if_neg (by omega)]; exact k.old i hi
  · intro i x hx
    show _ ∧ (w.heap.push o)[i]? = _
    rw [Array.getElem?_push]
    by_cases hi : i = w.heap.size
    · simp [hi] at hx ⊢; exact ⟨k.size, hx⟩
    · simp [hi] at hx ⊢; exact a _ _ hx
  · intro i x hx
    by_cases hi : i = w.heap.size
    · simpa [hi] using hx
    · simp [hi] at hx
  · intro i x hx
    have : i ≠ w.heap.size := by rintro rfl; rw [hn] at hx; cases hx
    simp [this, hx]
  · intro i
    by_cases hi : i = w.heap.size
    · right; rw [hi]; exact hn
    · left; simp [hi]

def ufz (fr : Nat × Nat) (n : Nat) : Prop := fr.1 = fr.2 ∨ n ≤ fr.1
theorem ufz_zero (n : Nat) : ufz (0, 0) n := .inl rfl
theorem St.cellF {B w : World} {L : List HP} {b T : Nat} {fr : Nat × Nat} {cs : List Value} (k : St B (pt b (.cells cs.toArray T fr) :: L) w) (i : Nat) : w.cell? ⟨b, i, none⟩ = cs[i]? := by
  have := k.at.2
  simp [World.cell?, this]
theorem St.unfrozenF {B w : World} {L : List HP} {b T : Nat} {fr : Nat × Nat} {cs : List Value} (k : St B (pt b (.cells cs.toArray T fr) :: L) w) (hf : ufz fr cs.length) {i : Nat} (hi : i < cs.length) : w.frozen? ⟨b, i, none⟩ = false := by
  have := k.at.2
  have h2 : ¬ (fr.1 ≤ i ∧ i < fr.2) := by rcases hf with h | h <;> omega
  simp only [World.frozen?, this]
  rw [Bool.eq_false_iff]; intro h; simp at h; exact h2 h
theorem St.setF {B w : World} {L : List HP} {b T : Nat} {fr : Nat × Nat} {cs : List Value} (k : St B (pt b (.cells cs.toArray T fr) :: L) w) (i : Nat) (v : Value) : St B (pt b (.cells (cs.set i v).toArray T fr) :: L) (w.setCell ⟨b, i, none⟩ v) := by
  have hb := k.at.2
  have hlt : b < w.heap.size := (Array.getElem?_eq_some_iff.1 hb).1
  refine k.put (o' := .cells (cs.set i v).toArray T fr) rfl rfl rfl (by simp) ?_ ?_
  · simp only [World.setCell, Array.getElem?_modify, ↓reduceIte, hb, Option.map_some]
    simp
  · intro j hj
    simp only [World.setCell, Array.getElem?_modify]
    rw [if_neg (by simpa using fun e => hj e.symm)]
theorem St.cell {B w : World} {L : List HP} {b T : Nat} {cs : List Value} (k : St B (cl b T cs :: L) w) (i : Nat) : w.cell? ⟨b, i, none⟩ = cs[i]? := by
  have := k.at.2
  simp [World.cell?, this]
theorem St.unfrozen {B w : World} {L : List HP} {b T : Nat} {cs : List Value} (k : St B (cl b T cs :: L) w) (i : Nat) : w.frozen? ⟨b, i, none⟩ = false := by
  have := k.at.2
  simp [World.frozen?, this]
theorem St.set {B w : World} {L : List HP} {b T : Nat} {cs : List Value} (k : St B (cl b T cs :: L) w) (i : Nat) (v : Value) : St B (cl b T (cs.set i v) :: L) (w.setCell ⟨b, i, none⟩ v) := by
  have hb := k.at.2
  have hlt : b < w.heap.size := (Array.getElem?_eq_some_iff.1 hb).1
  refine k.put (o' := .cells (cs.set i v).toArray T (0, 0)) rfl rfl rfl (by simp) ?_ ?_
  · simp only [World.setCell, Array.getElem?_modify, ↓reduceIte, hb, Option.map_some]
    simp
  · intro j hj
    simp only [World.setCell, Array.getElem?_modify]
    rw [if_neg (by simpa using fun e => hj e.symm)]

end Go.Proofs.YtbgkljpbemehiaaGreat.Sx
