/- What single operations of memory do, over small heaps; facts of types as classes. No condition. -/
import Derived.Test.YtbgkljpbemehiaaGreatS1
import Derived.Test.YtbgkljpbemehiaaGreatS0t
import Derived.Laws.Entries
namespace Go.Proofs.YtbgkljpbemehiaaGreat.Sx

variable {Pr : Program} {B : World}

/-! ### what a value is in cells -/
class Cels (v : Value) (cs : outParam (List Value)) : Prop where h : v.cells = cs.toArray
instance (cs : List Value) : Cels (.agg cs.toArray) cs := ⟨rfl⟩
instance (b : Bool) : Cels (.bool b) [.bool b] := ⟨rfl⟩
instance (k : IntKind) (n : Int) : Cels (.int k n) [.int k n] := ⟨rfl⟩
instance (s : ByteArray) : Cels (.string s) [.string s] := ⟨rfl⟩
instance (a : Option Addr) : Cels (.pointer a) [.pointer a] := ⟨rfl⟩
instance (a : Option Addr) (n c : Nat) : Cels (.slice a n c) [.slice a n c] := ⟨rfl⟩
instance (r : Option Nat) : Cels (.map r) [.map r] := ⟨rfl⟩
instance (f : Fn) (a c : Array Value) : Cels (.func f a c) [.func f a c] := ⟨rfl⟩
instance : Cels .nilFunc [.nilFunc] := ⟨rfl⟩
instance (t : TypeId) (v : Value) : Cels (.iface t v) [.iface t v] := ⟨rfl⟩
instance : Cels .nilIface [.nilIface] := ⟨rfl⟩
class One (v : Value) : Prop where h : v.oneCell' = true
instance (b : Bool) : One (.bool b) := ⟨rfl⟩
instance (k : IntKind) (n : Int) : One (.int k n) := ⟨rfl⟩
instance (k : FloatKind) (n : Nat) : One (.float k n) := ⟨rfl⟩
instance (s : ByteArray) : One (.string s) := ⟨rfl⟩
instance (a : Option Addr) : One (.pointer a) := ⟨rfl⟩
instance (a : Option Addr) (n c : Nat) : One (.slice a n c) := ⟨rfl⟩
instance (r : Option Nat) : One (.map r) := ⟨rfl⟩
instance (r : Option Nat) : One (.chan r) := ⟨rfl⟩
instance (f : Fn) (a c : Array Value) : One (.func f a c) := ⟨rfl⟩
instance : One .nilFunc := ⟨rfl⟩
instance (t : TypeId) (v : Value) : One (.iface t v) := ⟨rfl⟩
instance : One .nilIface := ⟨rfl⟩

/-! ### cells that are read and written -/
def ldn (cs : List Value) (o : Nat) : Nat → Option (List Value)
  | 0 => some []
  | n + 1 => match cs[o]?, ldn cs (o + 1) n with
    | some v, some vs => some (v :: vs)
    | _, _ => none
class SetN (cs : List Value) (o : Nat) (v : Value) (cs' : outParam (List Value)) : Prop where h : cs' = cs.set o v ∧ o < cs.length
instance (x v : Value) (l : List Value) : SetN (x :: l) 0 v (v :: l) := ⟨rfl, by simp⟩
instance (x v : Value) (l l' : List Value) (n : Nat) [h : SetN l n v l'] : SetN (x :: l) (n + 1) v (x :: l') := ⟨by rw [h.h.1]; rfl, by simpa using h.h.2⟩
instance (priority := high) (v : Value) (l l' : List Value) (n : Nat) [h : SetN l n v l'] : SetN l (n + 0) v l' := ⟨h.h⟩
inductive SetsR : List Value → Nat → List Value → List Value → Prop
  | nil (cs o) : SetsR cs o [] cs
  | cons {cs o v vs c1 c2} (h : c1 = cs.set o v) (hl : o < cs.length) (h1 : v.oneCell' = true) (r : SetsR c1 (o + 1) vs c2) : SetsR cs o (v :: vs) c2
class SetS (cs : List Value) (o : Nat) (vs : List Value) (cs' : outParam (List Value)) : Prop where h : SetsR cs o vs cs'
instance (cs : List Value) (o : Nat) : SetS cs o [] cs := ⟨.nil _ _⟩
instance (cs c1 c2 vs : List Value) (o : Nat) (v : Value) [h : SetN cs o v c1] [one : One v] [r : SetS c1 (o + 1) vs c2] : SetS cs o (v :: vs) c2 := ⟨.cons h.h.1 h.h.2 one.h r.h⟩

theorem SetsR.length {cs vs cs' : List Value} {o : Nat} (h : SetsR cs o vs cs') : cs'.length = cs.length := by
  induction h with
  | nil => rfl
  | cons h _ _ _ ih => rw [ih, h]; simp

/-- what is known of a block -/
class Has (B : World) (L : List HP) (b : Nat) (o : outParam Obj) : Prop where h : ∀ w, St B L w → w.heap[b]? = some o
class HasA (A : HP) (b : Nat) (o : outParam Obj) : Prop where h : ∀ h, A h → h b = some o
instance (b : Nat) (o : Obj) : HasA (pt b o) b o := ⟨fun _ x => x⟩
class Old (B : World) (b : Nat) (o : outParam Obj) : Prop where h : B.heap[b]? = some o
instance (priority := high) Has.head (A : HP) (L : List HP) (b : Nat) (o : Obj) [x : HasA A b o] : Has B (A :: L) b o := ⟨fun w hw => by
  obtain ⟨h, a, h1, h2, s, _, _, e, _⟩ := hw.own
  exact (a b o (s _ _ (x.h _ e))).2⟩
instance Has.tail (A : HP) (L : List HP) (b : Nat) (o : Obj) [x : Has B L b o] : Has B (A :: L) b o := ⟨fun w hw => x.h w (hw.ent (.drop A L))⟩
instance (priority := low) Has.old (L : List HP) (b : Nat) (o : Obj) [x : Old B b o] : Has B L b o := ⟨fun w hw => by
  have := x.h
  rw [hw.old b (Array.getElem?_eq_some_iff.1 this).1]; exact this⟩

/-- a block that is owned is taken out -/
class PickPt (L : List HP) (b : Nat) (o : outParam Obj) (L' : outParam (List HP)) : Prop where perm : L.Perm (pt b o :: L')
instance (priority := high) PickPt.here (b : Nat) (o : Obj) (L : List HP) : PickPt (pt b o :: L) b o L := ⟨.refl _⟩
instance PickPt.there (C : HP) (L L' : List HP) (b : Nat) (o : Obj) [h : PickPt L b o L'] : PickPt (C :: L) b o (C :: L') := ⟨(h.perm.cons C).trans (.swap _ _ _)⟩

/-! ### runs -/
theorem Addr.add_none (b o n : Nat) : (Addr.add ⟨b, o, none⟩ n : Addr) = ⟨b, o + n, none⟩ := by
  unfold Addr.add; split
  · subst_vars; rfl
  · rfl

theorem run_sizeOf' {t n : Nat} (h : (Pr.info? t).map (·.size) = some n) (w : World) : (sizeOf t).run Pr w = .ok n w := by
  cases e : Pr.info? t with
  | none => rw [e] at h; cases h
  | some i => rw [e] at h; simp at h; simp [sizeOf, typeInfo, e, h]
theorem run_isAgg' {t : Nat} {b : Bool} (h : (Pr.underlying t).map aggD = some b) (w : World) : (isAgg t).run Pr w = .ok b w := by
  cases e : Pr.underlying t with
  | none => rw [e] at h; cases h
  | some d =>
    rw [e] at h; simp at h
    simp only [isAgg, Sem.run_bind, run_underlying e, Result.andThen_ok]
    cases d <;> simp [aggD] at h <;> simp [h]
theorem run_zeroValue' {t : Nat} {z : Array Value} (h : (Pr.info? t).bind (fun i => i.zero.map Value.cells) = some z) (w : World) : ∃ v, (zeroValue t).run Pr w = .ok v w ∧ v.cells = z := by
  cases e : Pr.info? t with
  | none => rw [e] at h; cases h
  | some i =>
    rw [e] at h; simp at h
    obtain ⟨v, h1, h2⟩ := h
    exact ⟨v, by simp [zeroValue, typeInfo, e, h1], h2⟩

theorem run_loadCellsFrom {w : World} {b o : Nat} {cs : List Value} {T : TypeId} {fr : Nat × Nat} (hb : w.heap[b]? = some (.cells cs.toArray T fr)) :
    ∀ (n i : Nat) (vs : List Value) (acc : Array Value), ldn cs (o + i) n = some vs → (loadCellsFrom ⟨b, o, none⟩ i n acc).run Pr w = .ok (acc ++ vs.toArray) w
  | 0, i, vs, acc, h => by simp [ldn] at h; subst h; simp [loadCellsFrom]
  | n + 1, i, vs, acc, h => by
    simp only [ldn] at h
    split at h
    · rename_i v vs' h1 h2
      simp at h; subst h
      have hc : w.cell? ⟨b, o + i, none⟩ = some v := by simp [World.cell?, hb, h1]
      have := run_loadCellsFrom hb n (i + 1) vs' (acc.push v) (by rw [← h2]; rfl)
      simp only [loadCellsFrom, Sem.run_bind, run_load, Addr.add_none, hc, Result.andThen_ok, this]
      simp
    · cases h
theorem run_loadCells {w : World} {b o n : Nat} {cs vs : List Value} {T : TypeId} {fr : Nat × Nat} (hb : w.heap[b]? = some (.cells cs.toArray T fr)) (h : ldn cs o n = some vs) :
    (loadCells ⟨b, o, none⟩ n).run Pr w = .ok vs.toArray w := by
  have := run_loadCellsFrom (Pr := Pr) (o := o) hb n 0 vs #[] (by simpa using h)
  simpa [loadCells] using this
theorem run_loadVar1 {w : World} {b o t : Nat} {cs : List Value} {v : Value} {T : TypeId} {fr : Nat × Nat} [x : T1 Pr t] (hb : w.heap[b]? = some (.cells cs.toArray T fr)) (h : cs[o]? = some v) :
    (loadVar t ⟨b, o, none⟩).run Pr w = .ok v w := by
  have hc : w.cell? ⟨b, o, none⟩ = some v := by simp [World.cell?, hb, h]
  simp [loadVar, run_isAgg' x.h.1, hc]
theorem run_loadVarA {w : World} {b o t n : Nat} {cs vs : List Value} {T : TypeId} {fr : Nat × Nat} [x : TA Pr t n] (hb : w.heap[b]? = some (.cells cs.toArray T fr)) (h : ldn cs o n = some vs) :
    (loadVar t ⟨b, o, none⟩).run Pr w = .ok (.agg vs.toArray) w := by
  simp [loadVar, run_isAgg' x.h.1, run_sizeOf' x.h.2, run_loadCells hb h]

theorem run_storeCellsF {T b : Nat} {fr : Nat × Nat} {L : List HP} : ∀ {vs cs cs' : List Value} {o i : Nat} {w : World}, SetsR cs (o + i) vs cs' → ufz fr cs.length → St B (pt b (.cells cs.toArray T fr) :: L) w →
    ∃ w', (storeCells ⟨b, o, none⟩ vs i).run Pr w = .ok () w' ∧ St B (pt b (.cells cs'.toArray T fr) :: L) w'
  | [], cs, cs', o, i, w, h, _, hw => by cases h; exact ⟨w, by simp [storeCells], hw⟩
  | v :: vs, cs, cs', o, i, w, h, hf, hw => by
    cases h with
    | cons h hl h1 r =>
      subst h
      obtain ⟨w', hr, hs⟩ := run_storeCellsF (o := o) (i := i + 1) (by rw [← Nat.add_assoc]; exact r) (by simpa using hf) (hw.setF (o + i) v)
      refine ⟨w', ?_, hs⟩
      have hc : w.cell? ⟨b, o + i, none⟩ = some cs[o + i] := by rw [hw.cellF]; simp [hl]
      simp only [storeCells, Sem.run_bind, Addr.add_none, run_store Pr w _ v _ h1, hc, hw.unfrozenF hf hl, Bool.false_eq_true, if_false, Result.andThen_ok, hr]
theorem run_storeCells {T b : Nat} {L : List HP} {vs cs cs' : List Value} {o i : Nat} {w : World} (h : SetsR cs (o + i) vs cs') (hw : St B (cl b T cs :: L) w) :
    ∃ w', (storeCells ⟨b, o, none⟩ vs i).run Pr w = .ok () w' ∧ St B (cl b T cs' :: L) w' := run_storeCellsF h (ufz_zero _) hw
theorem run_storeVar' {T b o t n : Nat} {v : Value} {vs cs cs' : List Value} {L : List HP} {w : World} (hz : (Pr.info? t).map (·.size) = some n) (hn : vs.length = n) (hv : v.cells = vs.toArray) (h : SetsR cs o vs cs') (hw : St B (cl b T cs :: L) w) :
    ∃ w', (storeVar t ⟨b, o, none⟩ v).run Pr w = .ok () w' ∧ St B (cl b T cs' :: L) w' := by
  obtain ⟨w', hr, hs⟩ := run_storeCells (Pr := Pr) (o := o) (i := 0) (by simpa using h) hw
  refine ⟨w', ?_, hs⟩
  simp only [storeVar, Sem.run_bind, run_sizeOf' hz, Result.andThen_ok, hv]
  simp [hn, hr]

theorem run_fieldAt' {s f off ft b o : Nat} [x : TF Pr s f off ft] (w : World) : (Instr.fieldAt s (.pointer (some ⟨b, o, none⟩)) f).run Pr w = .ok (.pointer (some ⟨b, o + off, none⟩)) w := by
  obtain ⟨h1, h2⟩ := x.h
  unfold fieldOf at h1
  split at h1
  · rename_i fs hu
    cases hf : fs[f]? with
    | none => rw [hf] at h1; cases h1
    | some d =>
      rw [hf] at h1; simp at h1
      obtain ⟨h3, h4⟩ := h1
      subst h4
      cases hi : Pr.info? d.type with
      | none => rw [hi] at h2; cases h2
      | some i =>
        rw [hi] at h2; simp at h2
        have hsz : (sizeOf d.type).run Pr w = .ok i.size w := run_sizeOf' (by simp [hi]) w
        simp [Instr.fieldAt, run_underlying hu, hf, Instr.sureAddr, fieldPlace, hsz, h2, Addr.add_none, h3]
  · cases h1

end Go.Proofs.YtbgkljpbemehiaaGreat.Sx
