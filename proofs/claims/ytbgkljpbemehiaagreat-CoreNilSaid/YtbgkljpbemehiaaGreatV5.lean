/- A run with known values: operations that change memory. No condition. -/
import Derived.Test.YtbgkljpbemehiaaGreatV4
import Derived.Test.YtbgkljpbemehiaaGreatS5
set_option maxHeartbeats 2000000
namespace Go.Proofs.YtbgkljpbemehiaaGreat.Sx

variable {ω : List Value} {β β' : List (Option B3)} {B : World} {H : HV} {nx : Nat} {w : World} {Pr : Program}

/-- the same streams -/
structure Same (w w' : World) : Prop where
  os : w'.os = w.os
  tape : w'.tape = w.tape
  output : w'.output = w.output
theorem Same.refl (w : World) : Same w w := ⟨rfl, rfl, rfl⟩

theorem WR.keep_old (hw : WR B ω H nx β w) {w' : World} (b : Nat) (hb : B.heap.size ≤ b) (hn : ∀ (c : Nat) o, c ≠ b → w.heap[c]? = some o → w'.heap[c]? = some o) : B.heap.size ≤ w'.heap.size ∧ ∀ c, c < B.heap.size → w'.heap[c]? = B.heap[c]? := by
  have key : ∀ c, c < B.heap.size → w'.heap[c]? = B.heap[c]? := by
    intro c hc
    have h1 := hw.old c hc
    rw [Array.getElem?_eq_getElem hc] at h1 ⊢
    exact hn c _ (by omega) h1
  refine ⟨?_, key⟩
  by_cases h0 : B.heap.size = 0
  · omega
  · have := key (B.heap.size - 1) (by omega)
    rw [Array.getElem?_eq_getElem (by omega : B.heap.size - 1 < B.heap.size)] at this
    have := (Array.getElem?_eq_some_iff.1 this).1
    omega
theorem lt_of_some {w : World} {b : Nat} {o : Obj} (h : w.heap[b]? = some o) : b < w.heap.size := (Array.getElem?_eq_some_iff.1 h).1

/-- one block is turned -/
theorem WR.put1 (hw : WR B ω H nx β w) {w' : World} {i : Nat} {o o' : HO} {ob : Obj} {b f n : Nat} (hi : H.get i = some o) (hb : bt β i = some (b, f, n)) (hs : Same w w') (hob : w'.heap[b]? = some ob) (hn : ∀ (c : Nat) o, c ≠ b → w.heap[c]? = some o → w'.heap[c]? = some o) (hsz : w.heap.size ≤ w'.heap.size)
    (h : HOR ω β f n o' ob) : WR B ω (H.put i (some o')) nx β w' := by
  obtain ⟨a1, a2⟩ := hw.keep_old b (hw.new i b f n hb).1 hn
  refine ⟨hs.os.trans hw.os, hs.tape.trans hw.tape, hs.output.trans hw.output, a1, a2, fun j b' f' n' e => ⟨(hw.new j b' f' n' e).1, by have := (hw.new j b' f' n' e).2; omega⟩, hw.len, ?_, ?_, ?_⟩
  · intro j x b' f' n' e h1
    rcases Tr.get_put _ _ _ _ _ e with ⟨rfl, e2⟩ | ⟨hne, e2⟩
    · cases e2; rw [hb] at h1; cases h1; exact ⟨ob, hob, h⟩
    · obtain ⟨ob', h2, h3⟩ := hw.obj j x b' f' n' e2 h1
      refine ⟨ob', hn b' ob' ?_ h2, h3⟩
      rintro rfl
      exact hne (hw.inj j i x o b' f' n' f n e2 hi h1 hb)
  · intro j x e hs2
    rcases Tr.get_put _ _ _ _ _ e with ⟨rfl, e2⟩ | ⟨hne, e2⟩
    · exact ⟨_, hb⟩
    · exact hw.ex j x e2 hs2
  · intro j k x y b' f' n' f'' n'' e1 e2 e3 e4
    have g : ∀ {j : Nat} {x : HO}, (H.put i (some o')).get j = some x → ∃ y, H.get j = some y := by
      intro j x e
      rcases Tr.get_put _ _ _ _ _ e with ⟨rfl, _⟩ | ⟨_, e2⟩
      · exact ⟨_, hi⟩
      · exact ⟨_, e2⟩
    obtain ⟨x', e1'⟩ := g e1
    obtain ⟨y', e2'⟩ := g e2
    exact hw.inj j k x' y' b' f' n' f'' n'' e1' e2' e3 e4

/-- a block comes in under a new number; it may be one that another number had -/
theorem WR.rename (hw : WR B ω H nx β w) {w' : World} {H1 : HV} {o' : HO} {ob : Obj} {b f n : Nat} (hs : Same w w') (hob : w'.heap[b]? = some ob) (hbB : B.heap.size ≤ b) (hH : ∀ j x, H1.get j = some x → H.get j = some x ∧ ∀ (b' f' n' : Nat), bt β j = some (b', f', n') → b' ≠ b)
    (hn : ∀ (c : Nat) o, c ≠ b → w.heap[c]? = some o → w'.heap[c]? = some o) (hsz : w.heap.size ≤ w'.heap.size) (h : HOR ω (β ++ [some (b, f, n)]) f n o' ob) : WR B ω (H1.put nx (some o')) (nx + 1) (β ++ [some (b, f, n)]) w' := by
  obtain ⟨a1, a2⟩ := hw.keep_old b hbB hn
  have hlen := hw.len
  have hle := Le.snoc β (b, f, n)
  have hlast : bt (β ++ [some (b, f, n)]) nx = some (b, f, n) := by rw [← hlen]; simp
  have hold : ∀ (j : Nat) x, j ≠ nx → bt (β ++ [some (b, f, n)]) j = some x → bt β j = some x := by
    intro j x hj e
    have := bt_lt e
    rw [List.length_append, List.length_singleton] at this
    rwa [bt_old (by omega)] at e
  refine ⟨hs.os.trans hw.os, hs.tape.trans hw.tape, hs.output.trans hw.output, a1, a2, fun j b' f' n' e => ?_, by simp [hlen], ?_, ?_, ?_⟩
  · by_cases hj : j = nx
    · subst hj; rw [hlast] at e; cases e; exact ⟨hbB, lt_of_some hob⟩
    · have := hw.new j b' f' n' (hold j _ hj e); exact ⟨this.1, by omega⟩
  · intro j x b' f' n' e h1
    rcases Tr.get_put _ _ _ _ _ e with ⟨rfl, e2⟩ | ⟨hne, e2⟩
    · cases e2; rw [hlast] at h1; cases h1; exact ⟨ob, hob, h⟩
    · obtain ⟨e3, e4⟩ := hH j x e2
      have h1 := hold j _ hne h1
      obtain ⟨ob', h2, h3⟩ := hw.obj j x b' f' n' e3 h1
      exact ⟨ob', hn b' ob' (e4 b' f' n' h1) h2, h3.mono hle⟩
  · intro j x e hs2
    rcases Tr.get_put _ _ _ _ _ e with ⟨rfl, e2⟩ | ⟨hne, e2⟩
    · exact ⟨_, hlast⟩
    · obtain ⟨y, hy⟩ := hw.ex j x (hH j x e2).1 hs2
      exact ⟨y, hle _ _ hy⟩
  · intro j k x y b' f' n' f'' n'' e1 e2 e3 e4
    rcases Tr.get_put _ _ _ _ _ e1 with ⟨rfl, _⟩ | ⟨hj, e1'⟩
    · rcases Tr.get_put _ _ _ _ _ e2 with ⟨rfl, _⟩ | ⟨hk, e2'⟩
      · rfl
      · rw [hlast] at e3; cases e3
        exact absurd rfl ((hH k y e2').2 _ _ _ (hold k _ hk e4))
    · rcases Tr.get_put _ _ _ _ _ e2 with ⟨rfl, _⟩ | ⟨hk, e2'⟩
      · rw [hlast] at e4; cases e4
        exact absurd rfl ((hH j x e1').2 _ _ _ (hold j _ hj e3))
      · exact hw.inj j k x y b' f' n' f'' n'' (hH j x e1').1 (hH k y e2').1 (hold j _ hj e3) (hold k _ hk e4)

theorem WR.fresh (hw : WR B ω H nx β w) {o : HO} {ob : Obj} {n : Nat} (h : HOR ω (β ++ [some (w.heap.size, 0, n)]) 0 n o ob) : WR B ω (H.put nx (some o)) (nx + 1) (β ++ [some (w.heap.size, 0, n)]) (w.alloc ob) := by
  refine hw.rename ⟨rfl, rfl, rfl⟩ (by show (w.heap.push ob)[w.heap.size]? = _; simp) hw.size (fun j x e => ⟨e, fun b' f' n' e2 => ?_⟩) (fun c o hc e => ?_) (by simp) h
  · have := (hw.new j b' f' n' e2).2; omega
  · show (w.heap.push ob)[c]? = _
    have := lt_of_some e
    rw [Array.getElem?_push, if_neg (by omega)]; exact e

/-! ### one block among the others, for what is told over small heaps -/
def nob (w : World) : World := { w with heap := #[] }
def oth (w : World) (b : Nat) : HP := fun h => ∀ c, c ≠ b → h c = w.heap[c]?
theorem st_of {b : Nat} {ob : Obj} (h : w.heap[b]? = some ob) : St (nob w) [pt b ob, oth w b] w := by
  refine ⟨rfl, rfl, rfl, Nat.zero_le _, fun b hb => by simp [nob] at hb, fun c => w.heap[c]?, fun c o e => ⟨Nat.zero_le _, e⟩, fun c => if c = b then some ob else none, fun c => if c = b then none else w.heap[c]?, ?_, ?_, ?_, by simp [pt], ?_⟩
  · intro c o e
    by_cases hc : c = b
    · subst hc; simp at e; subst e; exact h
    · simp [hc] at e
  · intro c o e
    by_cases hc : c = b
    · simp [hc] at e
    · simp [hc] at e; exact e
  · intro c
    by_cases hc : c = b
    · right; simp [hc]
    · left; simp [hc]
  · exact ⟨fun c => if c = b then none else w.heap[c]?, fun _ => none, Hp.sub_refl _, (by intro _ _ x; cases x), fun _ => .inr rfl, fun c hc => by simp [hc], trivial⟩
theorem st_all (w : World) : St (nob w) [oth w w.heap.size] w := by
  refine ⟨rfl, rfl, rfl, Nat.zero_le _, fun b hb => by simp [nob] at hb, fun c => w.heap[c]?, fun c o e => ⟨Nat.zero_le _, e⟩, fun c => w.heap[c]?, fun _ => none, Hp.sub_refl _, (by intro _ _ x; cases x), fun _ => .inr rfl, fun c hc => rfl, trivial⟩
theorem st_to {w0 w' : World} {b b0 : Nat} {ob : Obj} (h : St (nob w0) [pt b ob, oth w0 b0] w') : Same w0 w' ∧ w'.heap[b]? = some ob ∧ (b = b0 ∨ w0.heap[b]? = none) ∧ ∀ (c : Nat) o, c ≠ b0 → w0.heap[c]? = some o → w'.heap[c]? = some o := by
  refine ⟨⟨h.os, h.tape, h.output⟩, h.at.2, ?_, ?_⟩
  · obtain ⟨hh, a, h1, h2, s1, s2, d, p1, h3, h4, s3, s4, d2, p2, _⟩ := h.own
    by_cases e : b = b0
    · exact .inl e
    · right
      rw [← p2 b e]
      rcases d b with x | x
      · rw [show h1 b = some ob from p1] at x; cases x
      · cases hx : h3 b with
        | none => rfl
        | some o => rw [s3 b o hx] at x; cases x
  · obtain ⟨hh, a, h1, h2, s1, s2, d, p1, h3, h4, s3, s4, d2, p2, _⟩ := h.own
    intro c o hc e
    have : h3 c = some o := by rw [p2 c hc]; exact e
    exact (a c o (s2 _ _ (s3 _ _ this))).2
theorem size_le {w0 w' : World} {b0 : Nat} (h : ∀ (c : Nat) o, c ≠ b0 → w0.heap[c]? = some o → w'.heap[c]? = some o) {b : Nat} {ob : Obj} (hb : w'.heap[b]? = some ob) (hbb : b = b0 ∨ w0.heap[b]? = none) (h0 : b0 < w0.heap.size → ∃ o, w'.heap[b0]? = some o) : w0.heap.size ≤ w'.heap.size := by
  by_cases hz : w0.heap.size = 0
  · omega
  · by_cases e : w0.heap.size - 1 = b0
    · obtain ⟨o, ho⟩ := h0 (by omega)
      have := lt_of_some ho; omega
    · have := h (w0.heap.size - 1) _ e (Array.getElem?_eq_getElem (by omega))
      have := lt_of_some this; omega

/-! ### operations -/
/-- what an operation that changes memory comes to -/
def EfR (Pr : Program) (B : World) (ω : List Value) (β : List (Option B3)) (s : Sem Value) (w : World) (v : V) (H' : HV) (nx' : Nat) : Prop :=
  ∃ x w' β', LeA β β' ∧ s.run Pr w = .ok x w' ∧ Den ω β' v x ∧ WR B ω H' nx' β' w'

theorem run_new {e : TypeId} {cs : Array Value} : (newRow e cs).run Pr w = .ok ⟨w.heap.size, 0, none⟩ (w.alloc (.cells cs e)) := by simp [newRow]
theorem take_all {xs : List Value} {n : Nat} (h : xs.length = n) : (xs.drop 0).take n = xs := by simp [← h]
theorem HOR.mkCells {β : List (Option B3)} {e : TypeId} {cs : List V} {xs : List Value} (h : DenL ω β cs xs) : HOR ω β 0 xs.length (.cells e cs) (.cells (List.toArray xs) e) :=
  ⟨xs, (0, 0), rfl, rfl, by rw [h.length]; omega, ufz_zero _, by rw [← h.length, take_all rfl]; exact h⟩
/-- what an operation that makes a new block comes to -/
def NwR (Pr : Program) (ω : List Value) (β : List (Option B3)) (s : Sem Value) (w : World) (mk : Nat → V) (nb : NB) : Prop :=
  ∃ x ob m, s.run Pr w = .ok x (w.alloc ob) ∧ HOR ω β 0 m nb.ho ob ∧ ∀ β' i, bt β' i = some (w.heap.size, 0, m) → Den ω β' (mk i) x
theorem NwR.ef (hw : WR B ω H nx β w) {s : Sem Value} {mk : Nat → V} {nb : NB} (h : NwR Pr ω β s w mk nb) : EfR Pr B ω β s w (mk nx) (mkV H nx nb.ho) (nx + 1) := by
  obtain ⟨x, ob, m, h1, h2, h3⟩ := h
  exact ⟨x, _, β ++ [some (w.heap.size, 0, m)], LeA.snoc _ _, h1, h3 _ _ (by rw [← hw.len]; simp), hw.fresh (h2.mono (Le.snoc _ _))⟩
/-- a block under a number that has been kept for it -/
theorem WR.later (hw : WR B ω H nx β w) {i : Nat} {o : HO} {ob : Obj} {m : Nat} (hi : H.get i = some o) (hn : bt β i = none) (hlt : i < nx) (h : HOR ω β 0 m o ob) : Le β (β.set i (some (w.heap.size, 0, m))) ∧ WR B ω H nx (β.set i (some (w.heap.size, 0, m))) (w.alloc ob) := by
  have hlt' : i < β.length := by rw [hw.len]; exact hlt
  have hle := Le.set (some (w.heap.size, 0, m)) hlt' hn
  have hself : bt (β.set i (some (w.heap.size, 0, m))) i = some (w.heap.size, 0, m) := by rw [bt_set hlt', if_pos rfl]
  have hold : ∀ (j : Nat) x, j ≠ i → bt (β.set i (some (w.heap.size, 0, m))) j = some x → bt β j = some x := by
    intro j x hj e; rwa [bt_set hlt', if_neg hj] at e
  have hkeep : ∀ (c : Nat) o, w.heap[c]? = some o → (w.alloc ob).heap[c]? = some o := by
    intro c o e
    show (w.heap.push ob)[c]? = _
    have := lt_of_some e
    rw [Array.getElem?_push, if_neg (by omega)]; exact e
  obtain ⟨a1, a2⟩ := hw.keep_old (w' := w.alloc ob) w.heap.size hw.size (fun c o _ e => hkeep c o e)
  refine ⟨hle, hw.os, hw.tape, hw.output, a1, a2, fun j b f n e => ?_, by simp [hw.len], fun j x b f n e h1 => ?_, fun j x e hs => ?_, fun j k x y b f n f' n' e1 e2 e3 e4 => ?_⟩
  · by_cases hj : j = i
    · subst hj; rw [hself] at e; cases e; exact ⟨hw.size, by simp⟩
    · have := hw.new j b f n (hold j _ hj e); exact ⟨this.1, by simp; omega⟩
  · by_cases hj : j = i
    · subst hj; rw [hself] at h1; cases h1; rw [hi] at e; cases e
      exact ⟨ob, by show (w.heap.push ob)[w.heap.size]? = _; simp, h.mono hle⟩
    · obtain ⟨ob', h2, h3⟩ := hw.obj j x b f n e (hold j _ hj h1)
      exact ⟨ob', hkeep _ _ h2, h3.mono hle⟩
  · obtain ⟨y, hy⟩ := hw.ex j x e hs; exact ⟨y, hle _ _ hy⟩
  · by_cases hj : j = i
    · by_cases hk : k = i
      · rw [hj, hk]
      · subst hj; rw [hself] at e3; cases e3
        have := (hw.new k _ _ _ (hold k _ hk e4)).2; omega
    · by_cases hk : k = i
      · subst hk; rw [hself] at e4; cases e4
        have := (hw.new j _ _ _ (hold j _ hj e3)).2; omega
      · exact hw.inj j k x y b f n f' n' e1 e2 (hold j _ hj e3) (hold k _ hk e4)
theorem row_ok {e : TypeId} {cs : List V} {xs : Array Value} {v : Nat → V} {mk : Addr → Value} {r : Nat → V} {nb : NB} (h : rowN e cs v = some (r, nb)) (dx : DenL ω β cs xs.toList) (hv : ∀ β' i b f n, bt β' i = some (b, f, n) → f = 0 → Den ω β' (v i) (mk ⟨b, 0, none⟩)) :
    NwR Pr ω β (do pure (mk (← newRow e xs))) w r nb := by
  obtain ⟨h1, h2⟩ := bcond h
  simp only [Option.some.injEq, Prod.mk.injEq] at h2
  obtain ⟨rfl, rfl⟩ := h2
  refine ⟨mk ⟨w.heap.size, 0, none⟩, .cells xs e, xs.toList.length, by simp [run_new], ?_, fun β' i hi => hv _ _ _ _ _ hi rfl⟩
  have := HOR.mkCells (e := e) dx
  simpa [NB.ho] using this

theorem alloc_ok {t : TypeId} {z : V} {r : Nat → V} {nb : NB} (hz : zeV Pr t = some z) (h : rowN t z.cells (fun nx => .ptr nx 0) = some (r, nb)) : NwR Pr ω β (Instr.alloc t true (.tuple #[])) w r nb := by
  obtain ⟨zv, h1, h2⟩ := run_zeV (ω := ω) (β := β) hz w
  obtain ⟨x, ob, m, a, b, c⟩ := row_ok (Pr := Pr) (w := w) (xs := zv.cells) (mk := fun a => .pointer (some a)) h (h2.cells (allOne_cells (bcond h).1)) (fun β' i b f n e hf => ⟨b, f, n, e, by rw [hf]⟩)
  exact ⟨x, ob, m, by simp only [Instr.alloc, Sem.run_bind, h1, Result.andThen_ok, newVar]; simpa only [Sem.run_bind] using a, b, c⟩
theorem box_ok {t : TypeId} {v : V} {r : Nat → V} {nb : NB} {x : Value} (dv : Den ω β v x) (h : rowN t v.cells (fun nx => .ptr nx 0) = some (r, nb)) : NwR Pr ω β (Instr.box t x) w r nb :=
  row_ok (Pr := Pr) (w := w) (xs := x.cells) (mk := fun a => .pointer (some a)) h (dv.cells (allOne_cells (bcond h).1)) (fun β' i b f n e hf => ⟨b, f, n, e, by rw [hf]⟩)

/-- cells are written -/
theorem cells_ok (hw : WR B ω H nx β w) {i o : Nat} {T : TypeId} {cs cs' vs : List V} {ys : List Value} {b f n : Nat} (hi : H.get i = some (.cells T cs)) (hb : bt β i = some (b, f, n)) (hst : stV cs o vs = some cs') (h1 : allOne vs = true) (dy : DenL ω β vs ys) :
    ∃ w', (storeCells ⟨b, f + o, none⟩ ys).run Pr w = .ok () w' ∧ WR B ω (H.put i (some (.cells T cs'))) nx β w' := by
  obtain ⟨all, fr, e1, e2, e3, e4, e5⟩ := hw.cells hi hb
  obtain ⟨k1, k2⟩ := stV_ok hst e5 dy
  have hlen : ((all.drop f).take cs.length).length = cs.length := by simp; omega
  rw [hlen] at k1
  obtain ⟨w', hr, hst'⟩ := run_storeCellsF (Pr := Pr) (o := f + o) (i := 0) (setsR_over ys all (f + o) (by omega) (allOne_ok h1 dy)) (e2 ▸ e4) (st_of e1)
  obtain ⟨s1, s2, s3, s4⟩ := st_to hst'
  refine ⟨w', hr, hw.put1 hi hb s1 s2 s4 (size_le s4 s2 s3 (fun _ => ⟨_, s2⟩)) ?_⟩
  have hcl : cs'.length = cs.length := by have := k2.length; simp at this; omega
  refine ⟨over all (f + o) ys, fr, rfl, by rw [over_len (by omega)]; exact e2, by rw [hcl]; exact e3, e4, ?_⟩
  rw [hcl]
  have : ((over all (f + o) ys).drop f).take cs.length = List.take o (List.take cs.length (List.drop f all)) ++ ys ++ List.drop (o + ys.length) (List.take cs.length (List.drop f all)) := by
    have l1 : (all.take (f + o)).length = f + o := by rw [List.length_take]; omega
    have l2 : ((all.drop f).take o).length = o := by rw [List.length_take, List.length_drop]; omega
    unfold over
    rw [List.append_assoc, List.drop_append_of_le_length (by rw [l1]; omega), List.drop_take, show f + o - f = o by omega, ← List.append_assoc]
    rw [List.take_append, List.take_of_length_le (by rw [List.length_append, l2]; omega), List.length_append, l2, List.drop_take, List.drop_drop, List.take_take, show min o cs.length = o by omega, show f + (o + ys.length) = f + o + ys.length by omega]
  rw [this]; exact k2
theorem storeA_ok (hw : WR B ω H nx β w) {t : TypeId} {a v : V} {av x : Value} {H' : HV} (h : storeA Pr H t a v = some H') (da : Den ω β a av) (dv : Den ω β v x) : ∃ w', (Instr.storeAt t av x).run Pr w = .ok () w' ∧ WR B ω H' nx β w' := by
  unfold storeA at h
  split at h
  · rename_i i o
    simp only [Den] at da; obtain ⟨b, f, n, hb, rfl⟩ := da
    split at h
    · rename_i T cs sz hi hz
      obtain ⟨h1, h2⟩ := bcond h
      simp only [Bool.and_eq_true] at h1
      have hl := Nat.eq_of_beq_eq_true h1.1
      split at h2
      · rename_i cs' hst
        simp only [Option.some.injEq] at h2; subst h2
        have dc := dv.cells (allOne_cells h1.2)
        obtain ⟨w', hr, hw'⟩ := cells_ok (Pr := Pr) hw hi hb hst h1.2 dc
        refine ⟨w', ?_, hw'⟩
        have hsz : x.cells.size = sz := by rw [← hl, ← dc.length]; simp
        simp only [Instr.storeAt, Instr.sureAddr, Sem.run_bind, Sem.run_pure, Result.andThen_ok, storeVar, run_szV hz, hsz, ne_eq, not_true_eq_false, if_false, hr]
      · cases h2
    · cases h
  · cases h

theorem rep_zeros {z : List V} {zs : List Value} (h : DenL ω β z zs) : ∀ n, DenL ω β (repV z n) (zeros zs n)
  | 0 => DenL.nil_iff.2 rfl
  | n + 1 => h.append (rep_zeros h n)
theorem zeros_arr {zs : Array Value} (hz : zs.size ≠ 0) (n : Nat) : (Array.range (n * zs.size)).map (fun i => zs[i % zs.size]!) = List.toArray (zeros zs.toList n) := by
  have := zeros_get zs.toList n
  simpa using this

theorem slInst {t e z b : Nat} (h1 : Pr.underlying t = some (.slice e)) (h2 : szV Pr e = some z) (h3 : byV Pr e = some b) : TS Pr t e z b := ⟨h1, by
  unfold szV at h2; unfold byV at h3
  cases hi : Pr.info? e with
  | none => rw [hi] at h2; cases h2
  | some i => rw [hi] at h2 h3; simp at h2 h3 ⊢; exact ⟨h2, h3⟩⟩
theorem zInst {e : Nat} {zv : Value} (h : (zeroValue e).run Pr w = .ok zv w) : TZ Pr e zv.cells.toList := ⟨by
  simp only [zeroValue, typeInfo, Sem.run_bind, run_program, Result.andThen_ok] at h
  cases hi : Pr.info? e with
  | none => rw [hi] at h; simp at h
  | some i =>
    rw [hi] at h; simp only [Sem.run_pure, Result.andThen_ok] at h
    cases hz : i.zero with
    | none => rw [hz] at h; simp at h
    | some y => rw [hz] at h; simp at h; subst h; simp [hz]⟩
theorem smallN {n b : Nat} (h : small n b = true) : n * b ≤ 1000000 ∧ n ≤ 1000000 := by
  simp only [small, Bool.and_eq_true] at h; exact ⟨Nat.le_of_ble_eq_true h.1, Nat.le_of_ble_eq_true h.2⟩

theorem makeSlN_ok {t : TypeId} {l c : V} {r : Nat → V} {nb : NB} {lv cv : Value} (h : makeSlN Pr t l c = some (r, nb)) (dl : Den ω β l lv) (dc : Den ω β c cv) : NwR Pr ω β (Instr.makeSlice t lv cv) w r nb := by
  unfold makeSlN at h
  split at h
  · rename_i e k1 l k2 c h1
    simp only [Den] at dl dc; subst dl; subst dc
    split at h
    · rename_i z b zv hz hb hzv
      obtain ⟨g, h2⟩ := bcond h
      simp only [Bool.and_eq_true, decide_eq_true_eq, Bool.not_eq_true'] at g
      obtain ⟨⟨⟨⟨⟨g1, g2⟩, g3⟩, g4⟩, g5⟩, g6⟩ := g
      have g5 := Nat.eq_of_beq_eq_true g5
      have g6 : z ≠ 0 := fun e => by rw [e] at g6; cases g6
      obtain ⟨g7, g8⟩ := smallN g3
      obtain ⟨zx, r1, d1⟩ := run_zeV (ω := ω) (β := β) hzv w
      have dz := d1.cells (noTup_ok g4)
      have hzl : zx.cells.size = z := by rw [← g5, ← dz.length]; simp
      obtain ⟨x, ob, m, bb, cc, d⟩ := row_ok (Pr := Pr) (w := w) (e := e) (xs := List.toArray (zeros zx.cells.toList c.toNat)) (mk := fun a => .slice (some a) l.toNat c.toNat) h2 (rep_zeros dz _) (fun β' i b f n e hf => ⟨b, f, n, e, by rw [hf], by omega⟩)
      refine ⟨x, ob, m, ?_, cc, d⟩
      rw [← bb]
      have w1 : IntKind.i64.wrap c = c := wrap_kin (by simp only [kin]; omega)
      have w2 : IntKind.i64.wrap l = l := wrap_kin (by simp only [kin]; omega)
      obtain ⟨info, hinfo, hbyt⟩ := run_byV hb w
      have t0 : (b : Int) * c ≤ 1000000 := by
        have e1 : (b : Int) * c = ((c.toNat * b : Nat) : Int) := by rw [Nat.mul_comm, Int.natCast_mul, Int.toNat_of_nonneg (by omega)]
        omega
      have t2 : ¬ (c < 0) := by omega
      have t3 : ¬ (b : Int) * c > 2 ^ 48 := by omega
      have t4 : ¬ (l < 0) := by omega
      have t5 : ¬ (l > c) := by omega
      simp only [Instr.makeSlice, Sem.run_bind, und h1, Result.andThen_ok, asInt, asIntOf, Sem.run_pure, hinfo, hbyt, w1, w2]
      simp only [t2, t3, t4, t5, decide_false, Bool.or_self, Bool.false_eq_true, if_false, Sem.run_bind, run_askRoom, Result.andThen_ok, run_szV hz, or_self]
      by_cases h0 : c.toNat * z = 0
      · have hc0 : c.toNat = 0 := by rcases Nat.mul_eq_zero.1 h0 with h | h <;> omega
        have e0 : (Array.map (fun i => (#[] : Array Value)[i % (#[] : Array Value).size]!) (Array.range 0)) = List.toArray (zeros zx.cells.toList c.toNat) := by rw [hc0]; simp [zeros]
        simp only [h0, if_true, Sem.run_bind, Sem.run_pure, Result.andThen_ok]
        rw [e0]
      · have := zeros_arr (zs := zx.cells) (by omega) c.toNat
        rw [hzl] at this
        simp only [h0, if_false, Sem.run_bind, r1, Result.andThen_ok, Sem.run_pure, hzl, this]
    · cases h
  · cases h

theorem buildSlN_ok {t : TypeId} {n : Nat} {ps : List (Nat × V)} {qs : List (Nat × Value)} {r : Nat → V} {nb : NB} (h : buildSlN Pr t n ps = some (r, nb)) (hp : PaR ω β ps qs) : NwR Pr ω β (Instr.buildSlice t n (List.toArray qs)) w r nb := by
  unfold buildSlN at h
  split at h
  · rename_i e h1
    split at h
    · rename_i z zv hz hzv
      obtain ⟨g, h2⟩ := bcond h
      simp only [Bool.and_eq_true, Bool.not_eq_true'] at g
      obtain ⟨⟨⟨g1, g2⟩, g3⟩, g4⟩ := g
      have g1 := Nat.le_of_ble_eq_true g1
      have g3 := Nat.eq_of_beq_eq_true g3
      have g4 : z ≠ 0 := fun e => by rw [e] at g4; cases g4
      split at h2
      · rename_i cs hf
        obtain ⟨zx, r1, d1⟩ := run_zeV (ω := ω) (β := β) hzv w
        have dz := d1.cells (noTup_ok g2)
        have hzl : zx.cells.size = z := by rw [← g3, ← dz.length]; simp
        obtain ⟨ys, k1, k2⟩ := fillV_ok hf hp (rep_zeros dz n)
        obtain ⟨x, ob, m, bb, cc, d⟩ := row_ok (Pr := Pr) (w := w) (e := e) (xs := List.toArray ys) (mk := fun a => .slice (some a) n n) h2 k2 (fun β' i b f m e hf => ⟨b, f, m, e, by rw [hf], Nat.le_refl _⟩)
        refine ⟨x, ob, m, ?_, cc, d⟩
        rw [← bb]
        simp only [Instr.buildSlice, Sem.run_bind, und h1, Result.andThen_ok, run_szV hz]
        rw [if_neg (by simp; omega)]
        by_cases h0 : n * z = 0
        · have hc0 : n = 0 := by rcases Nat.mul_eq_zero.1 h0 with h | h <;> omega
          subst hc0
          have e0 : (Array.map (fun i => (#[] : Array Value)[i % (#[] : Array Value).size]!) (Array.range 0)) = List.toArray (zeros zx.cells.toList 0) := by simp [zeros]
          simp only [h0, if_true, Sem.run_bind, Sem.run_pure, Result.andThen_ok]
          rw [e0, k1]
          simp only [Sem.run_bind, Sem.run_pure]
        · have := zeros_arr (zs := zx.cells) (by omega) n
          rw [hzl] at this
          simp only [h0, if_false, Sem.run_bind, r1, Result.andThen_ok, Sem.run_pure, hzl, this, k1]
      · cases h2
    · cases h
  · cases h

theorem firstA_rd (hw : WR B ω H nx β w) {z m : Nat} {x : V} {xs : List V} {v : Value} (h : firstA H z x = some (m, xs)) (dx : Den ω β x v) : ∃ ys, Rdw w v z m ys ∧ DenL ω β xs ys := by
  unfold firstA at h
  split at h
  · simp only [Den] at dx; subst dx; simp at h; obtain ⟨rfl, rfl⟩ := h; exact ⟨[], ⟨none, 0, rfl, Nat.le_refl _, by simp, .inl rfl⟩, DenL.nil_iff.2 rfl⟩
  · simp only [Den] at dx; obtain ⟨a, c, rfl⟩ := dx; simp at h; obtain ⟨rfl, rfl⟩ := h; exact ⟨[], ⟨some a, c, rfl, Nat.zero_le _, by simp, .inl rfl⟩, DenL.nil_iff.2 rfl⟩
  · rename_i i o l c
    simp only [Den] at dx; obtain ⟨b, f, n, hb, rfl, hlc⟩ := dx
    split at h
    · rename_i T cs hc
      simp only [Option.map_eq_some_iff, Prod.mk.injEq] at h
      obtain ⟨r, hr, rfl, rfl⟩ := h
      obtain ⟨all, fr, e1, e2, e3, e4, e5⟩ := hw.cells (clV_ok hc) hb
      obtain ⟨ys, h1, h2⟩ := ldV_at e5 hr
      exact ⟨ys, ⟨some ⟨b, f + o, none⟩, c, rfl, hlc, ldn_len h1, .inr ⟨b, f + o, all, T, fr, rfl, e1, h1⟩⟩, h2⟩
    · cases h
  · rename_i i o l z'
    simp only [Den] at dx; obtain ⟨b, f, n, c, hb, rfl, hlc, _⟩ := dx
    split at h
    · rename_i T cs hc
      simp only [Option.map_eq_some_iff, Prod.mk.injEq] at h
      obtain ⟨r, hr, rfl, rfl⟩ := h
      obtain ⟨all, fr, e1, e2, e3, e4, e5⟩ := hw.cells (clV_ok hc) hb
      obtain ⟨ys, h1, h2⟩ := ldV_at e5 hr
      exact ⟨ys, ⟨some ⟨b, f + o, none⟩, c, rfl, hlc, ldn_len h1, .inr ⟨b, f + o, all, T, fr, rfl, e1, h1⟩⟩, h2⟩
    · cases h
  · cases h

/-- append, where there is no room -/
theorem run_append_new {t t2 e sz by' n n2 : Nat} {ty : TypeId} {a : Option Addr} {c : Nat} {x : Value} {cs xs : List Value} {zv : Value} [ts : TS Pr t e sz by'] [t2s : TSl Pr t2]
    (hrv : Rdw w (.slice a n c) sz n cs) (hx : Rdw w x sz n2 xs) (hz : (zeroValue e).run Pr w.drew = .ok zv w.drew) (hzl : zv.cells.size = sz) (hb : (n + n2) * by' ≤ 140737488351232) (hn : n + n2 ≤ 140737488351232) (hroom : ¬ n + n2 ≤ c) :
    ∃ nc zs, (Builtin.append_ #[t, t2] ty #[.slice a n c, x]).run Pr w = .ok (.slice (some ⟨w.heap.size, 0, none⟩) (n + n2) nc) (w.drew.alloc (.cells (List.toArray (cs ++ xs ++ zs)) e)) ∧ n + n2 ≤ nc ∧ (cs ++ xs ++ zs).length = nc * sz := by
  obtain ⟨hu, hi⟩ := ts.h
  obtain ⟨el, hu2⟩ := TSl.el (Pr := Pr) (t := t2)
  obtain ⟨info, hinf, hsz, hbyt⟩ : ∃ i, Pr.info? e = some i ∧ i.size = sz ∧ i.bytes = by' := by
    cases hh : Pr.info? e with
    | none => rw [hh] at hi; cases hi
    | some i => rw [hh] at hi; simp at hi; exact ⟨i, rfl, hi.1, hi.2⟩
  obtain ⟨a2, c2, hxe, hc2, hxl, hx'⟩ := id hx
  obtain ⟨_, _, _, _, hcl, _⟩ := id hrv
  have hsize : ∀ w, (sizeOf e).run Pr w = .ok sz w := fun w => run_sizeOf' (by simp [hinf, hsz]) w
  have hinfo : ∀ w, (typeInfo e).run Pr w = .ok info w := fun w => by simp [typeInfo, hinf]
  subst hxe
  have hcap := cap_le (n + n2) c (by omega)
  have hcap2 : Builtin.nextslicecap (n + n2) c * by' ≤ 2 ^ 48 := by
    have := Nat.mul_le_mul_right by' hcap
    rw [Nat.mul_assoc] at this
    omega
  obtain ⟨nc, hnc⟩ : ∃ nc, nc = (n + n2) + w.tape w.drawn (.appendCap (n + n2) c e) % (2 ^ 63 - (n + n2)) := ⟨_, rfl⟩
  have hge : n + n2 ≤ nc := by omega
  have r1 : Rdw w.drew (.slice a n c) sz n cs := hrv
  have r2 : Rdw w.drew (.slice a2 n2 c2) sz n2 xs := hx
  have hsz2 : (Builtin.zeroCells zv.cells (nc - (n + n2))).toList.length = (nc - (n + n2)) * sz := by simp [zeroCells_size, hzl]
  refine ⟨nc, (Builtin.zeroCells zv.cells (nc - (n + n2))).toList, ?_, hge, ?_⟩
  · have e1 : ¬ ((n + n2 : Nat) : Int) > IntKind.i64.max := by simp; omega
    have e2 : ¬ Builtin.nextslicecap (n + n2) c * info.bytes > 2 ^ 48 := by rw [hbyt]; omega
    simp only [Builtin.append_, List.getElem?_toArray, List.getElem?_cons_zero, List.getElem?_cons_succ, Sem.run_bind, run_underlying hu, Result.andThen_ok, hsize, run_underlying hu2, Sem.run_pure, Bool.false_eq_true, if_false, Builtin.lenOf, hroom,
      Sem.run_ite, hinfo, hbyt, run_askRoom, run_choose, Question.forced, Question.cut]
    simp only [Bool.not_false, if_true, e1, false_and, if_false, Bool.false_eq_true]
    rw [if_neg (by omega)]
    simp only [Result.andThen_ok, World.drew_eq, run_firstCells r1, run_firstCells r2, hz, ← hnc, newRow, Sem.run_bind, run_newObj, World.alloc_eq, Sem.run_pure]
    have earr : cs.toArray ++ xs.toArray ++ Builtin.zeroCells zv.cells (nc - (n + n2)) = (cs ++ xs ++ (Builtin.zeroCells zv.cells (nc - (n + n2))).toList).toArray := by apply Array.toList_inj.1; simp
    rw [earr]; rfl
  · rw [List.length_append, List.length_append, hsz2, hcl, hxl, ← Nat.add_mul, ← Nat.add_mul]; congr 1; omega

theorem append_new_ok (hw : WR B ω H nx β w) {t t2 e z b l m c : Nat} {ty : TypeId} {a : Option Addr} {x : Value} {cs xs : List Value} {cv xv : List V} {H1 : HV} (hH : ∀ j y, H1.get j = some y → H.get j = some y) (h1 : Pr.underlying t = some (.slice e)) {d2 : TypeDesc} (h2 : Pr.underlying t2 = some d2) (h2s : slT d2 = true) (hz : szV Pr e = some z) (hb : byV Pr e = some b)
    (hrv : Rdw w (.slice a l c) z l cs) (hx : Rdw w x z m xs) (dc : DenL ω β cv cs) (dx : DenL ω β xv xs) (s1 : small l b = true) (s2 : small m b = true) (hroom : ¬ l + m ≤ c) {zv : V} (hzv : zeV Pr e = some zv) (hnt : zv.noTup = true) (hzl : zv.cells.length = z) :
    EfR Pr B ω β (Builtin.append_ #[t, t2] ty #[.slice a l c, x]) w (.su nx 0 (l + m) z) (H1.put nx (some (.cells e (cv ++ xv)))) (nx + 1) := by
  obtain ⟨zx, r1, d1⟩ := run_zeV (ω := ω) (β := β) hzv w.drew
  have dz := d1.cells (noTup_ok hnt)
  have hzl2 : zx.cells.size = z := by rw [← hzl, ← dz.length]; simp
  have i1 := slInst h1 hz hb
  have i2 : TSl Pr t2 := ⟨by rw [h2]; cases d2 <;> simp [slT] at h2s <;> rfl⟩
  obtain ⟨a1, a2⟩ := smallN s1
  obtain ⟨a3, a4⟩ := smallN s2
  obtain ⟨nc, zs, hr, hge, hlen⟩ := run_append_new (ty := ty) (t := t) (t2 := t2) (by' := b) hrv hx r1 hzl2 (by rw [Nat.add_mul]; omega) (by omega) hroom
  have hw2 := hw.drew
  have hlast : bt (β ++ [some (w.heap.size, 0, nc * z)]) nx = some (w.heap.size, 0, nc * z) := by rw [← hw.len]; simp
  have hcv := dc.length
  have hxv := dx.length
  refine ⟨_, _, β ++ [some (w.heap.size, 0, nc * z)], LeA.snoc _ _, hr, ⟨w.heap.size, 0, nc * z, nc, hlast, by simp, hge, by omega⟩, ?_⟩
  refine hw2.rename (H1 := H1) (ob := .cells (List.toArray (cs ++ xs ++ zs)) e) ⟨rfl, rfl, rfl⟩ (by show (w.heap.push _)[w.heap.size]? = _; simp) hw.size (fun j x e => ⟨hH j x e, fun b' f' n' e2 => ?_⟩) (fun c o hc e => ?_) (by show w.heap.size ≤ (w.heap.push _).size; simp) ?_
  · have := (hw.new j b' f' n' e2).2; omega
  · show (w.heap.push _)[c]? = _
    have := lt_of_some e
    have e' : w.heap[c]? = some o := e
    rw [Array.getElem?_push, if_neg (by have h : c < w.heap.size := this; omega)]; exact e'
  · refine ⟨cs ++ xs ++ zs, (0, 0), rfl, hlen, ?_, ufz_zero _, ?_⟩
    · rw [← hlen]; simp; omega
    · rw [List.drop_zero, List.take_append_of_le_length (by simp; omega), List.take_of_length_le (by simp; omega)]
      exact DenL.mono (Le.snoc _ _) _ (dc.append dx)

/-- append, where there is room -/
theorem run_append_in {t t2 e sz : Nat} {ty : TypeId} {b o n c n2 : Nat} {x : Value} {xs : List Value} {w' : World} (hu : Pr.underlying t = some (.slice e)) (hz : szV Pr e = some sz) [t2s : TSl Pr t2] (hx : Rdw w x sz n2 xs) (hroom : n + n2 ≤ c) (hst : (storeCells ⟨b, o + n * sz, none⟩ xs).run Pr w = .ok () w') :
    (Builtin.append_ #[t, t2] ty #[.slice (some ⟨b, o, none⟩) n c, x]).run Pr w = .ok (.slice (some ⟨b, o, none⟩) (n + n2) c) w' := by
  obtain ⟨el, hu2⟩ := TSl.el (Pr := Pr) (t := t2)
  obtain ⟨a2, c2, rfl, hc2, hxl, hx'⟩ := id hx
  simp [Builtin.append_, run_underlying hu, run_underlying hu2, run_szV hz, Builtin.lenOf, run_firstCells hx, hroom, Addr.add_none, hst]

theorem appendA_ok (hw : WR B ω H nx β w) {t t2 : TypeId} {ty : TypeId} {s x r : V} {sv xv : Value} {H' : HV} {nx' : Nat} (h : appendA Pr H nx t t2 s x = some (r, H', nx')) (ds : Den ω β s sv) (dx : Den ω β x xv) : EfR Pr B ω β (Builtin.append_ #[t, t2] ty #[sv, xv]) w r H' nx' := by
  unfold appendA at h
  split at h
  · rename_i e d2 h1 h2
    replace h := bcond' h
    obtain ⟨h3, h⟩ := h
    have h3 : slT d2 = true := by simpa using h3
    have i2 : TSl Pr t2 := ⟨by rw [h2]; cases d2 <;> simp [slT] at h3 <;> rfl⟩
    split at h
    · rename_i z b zv hz hb hzv
      split at h
      · rename_i m xs hf
        replace h := bcond h
        obtain ⟨g, h⟩ := h
        simp only [Bool.and_eq_true] at g
        obtain ⟨⟨⟨g1, g2⟩, g3⟩, g4⟩ := g
        have g2 := Nat.eq_of_beq_eq_true g2
        obtain ⟨ys, hx, dy⟩ := firstA_rd hw hf dx
        split at h
        · simp only [Den] at ds; subst ds
          by_cases hm : m = 0
          · subst hm
            simp at h
            obtain ⟨rfl, rfl, rfl⟩ := h
            refine ⟨.slice none 0 0, w, β, LeA.refl _, ?_, rfl, hw⟩
            obtain ⟨el, hu2⟩ := TSl.el (Pr := Pr) (t := t2)
            obtain ⟨a2, c2, rfl, hc2, hxl, hx'⟩ := id hx
            simp [Builtin.append_, run_underlying h1, run_underlying hu2, run_szV hz, Builtin.lenOf, run_firstCells hx]
          · rw [beq_ne hm] at h; simp at h
            obtain ⟨rfl, rfl, rfl⟩ := h
            have := append_new_ok (ty := ty) hw (H1 := H) (fun _ _ e => e) h1 h2 h3 hz hb (a := none) (l := 0) (c := 0) (cs := []) (cv := []) ⟨none, 0, rfl, Nat.le_refl _, by simp, .inl rfl⟩ hx (DenL.nil_iff.2 rfl) dy (by simp [small]) g4 (by omega) hzv g1 g2
            simpa [mkV] using this
        · rename_i i o l c
          simp only [Den] at ds; obtain ⟨bb, f, n, hbb, rfl, hlc⟩ := ds
          replace h := bcond h
          obtain ⟨g5, h⟩ := h
          split at h
          · rename_i T cs hi
            obtain ⟨all, fr, e1, e2, e3, e4, e5⟩ := hw.cells hi hbb
            cases hr : Nat.ble (l + m) c with
            | true =>
              rw [hr] at h; simp only [cond_true] at h
              have hr := Nat.le_of_ble_eq_true hr
              split at h
              · rename_i cs' hst
                simp only [Option.some.injEq, Prod.mk.injEq] at h
                obtain ⟨rfl, rfl, rfl⟩ := h
                obtain ⟨w', k1, k2⟩ := cells_ok (Pr := Pr) hw hi hbb hst g3 dy
                refine ⟨_, w', β, LeA.refl _, run_append_in h1 hz hx hr (by rw [show f + o + l * z = f + (o + l * z) by omega]; exact k1), ⟨bb, f, n, hbb, rfl, hr⟩, k2⟩
              · cases h
            | false =>
              rw [hr] at h; simp only [cond_false] at h
              have hr : ¬ l + m ≤ c := fun e => by rw [Nat.ble_eq_true_of_le e] at hr; cases hr
              split at h
              · rename_i old ho
                simp only [Option.some.injEq, Prod.mk.injEq] at h
                obtain ⟨rfl, rfl, rfl⟩ := h
                obtain ⟨os, k1, k2⟩ := ldV_at e5 ho
                exact append_new_ok (ty := ty) hw (fun _ _ e => e) h1 h2 h3 hz hb ⟨_, c, rfl, hlc, ldn_len k1, .inr ⟨bb, f + o, all, T, fr, rfl, e1, k1⟩⟩ hx k2 dy g5 g4 hr hzv g1 g2
              · cases h
          · cases h
        · rename_i i o l z'
          simp only [Den] at ds; obtain ⟨bb, f, n, c, hbb, rfl, hlc, hroom⟩ := ds
          replace h := bcond h
          obtain ⟨g5, h⟩ := h
          simp only [Bool.and_eq_true] at g5
          obtain ⟨g5, g6⟩ := g5
          have g6 := Nat.eq_of_beq_eq_true g6
          subst g6
          split at h
          · rename_i T cs hi
            replace h := bcond h
            obtain ⟨g7, h⟩ := h
            have g7 := Nat.eq_of_beq_eq_true g7
            subst g7
            split at h
            · rename_i old ho
              simp only [Option.some.injEq, Prod.mk.injEq] at h
              obtain ⟨rfl, rfl, rfl⟩ := h
              obtain ⟨all, fr, e1, e2, e3, e4, e5⟩ := hw.cells hi hbb
              obtain ⟨os, k1, k2⟩ := ldV_at e5 ho
              have hdel : ∀ j y, (H.put i none).get j = some y → H.get j = some y ∧ j ≠ i := by
                intro j y e
                rcases Tr.get_put _ _ _ _ _ e with ⟨_, e2⟩ | ⟨hne, e2⟩
                · cases e2
                · exact ⟨e2, hne⟩
              by_cases hr : l + m ≤ c
              · have hle := Nat.mul_le_mul_right z hr
                rw [Nat.add_mul] at hle
                have hyl : ys.length = m * z := by obtain ⟨_, _, _, _, h, _⟩ := id hx; exact h
                obtain ⟨w', hst, hst'⟩ := run_storeCellsF (Pr := Pr) (o := f + o + l * z) (i := 0) (setsR_over ys all (f + o + l * z) (by omega) (allOne_ok g3 dy)) (e2 ▸ e4) (st_of e1)
                obtain ⟨s1, s2, s3, s4⟩ := st_to hst'
                have hlast : bt (β ++ [some (bb, f + o, n)]) nx = some (bb, f + o, n) := by rw [← hw.len]; simp
                refine ⟨_, w', β ++ [some (bb, f + o, n)], LeA.snoc _ _, run_append_in h1 hz hx hr hst, ⟨bb, f + o, n, c, hlast, by simp, hr, by omega⟩, ?_⟩
                refine hw.rename s1 s2 (hw.new _ _ _ _ hbb).1 (fun j y e => ⟨(hdel j y e).1, fun b' f' n' e2 => ?_⟩) s4 (size_le s4 s2 s3 (fun _ => ⟨_, s2⟩)) ?_
                · rintro rfl
                  exact (hdel j y e).2 (hw.inj j i y _ b' f' n' f n (hdel j y e).1 hi e2 hbb)
                · have hol := ldn_len k1
                  have hov := k2.length
                  have hyv := dy.length
                  have hex := ldn_extract k1
                  refine ⟨over all (f + o + l * z) ys, fr, rfl, by rw [over_len (by omega)]; exact e2, by rw [List.length_append]; omega, e4, ?_⟩
                  have l1 : (all.take (f + o + l * z)).length = f + o + l * z := by rw [List.length_take]; omega
                  have : ((over all (f + o + l * z) ys).drop (f + o)).take (old ++ xs).length = os ++ ys := by
                    unfold over
                    rw [List.append_assoc, List.drop_append_of_le_length (by rw [l1]; omega), List.drop_take, show f + o + l * z - (f + o) = l * z by omega, ← hex, List.length_append, ← List.append_assoc,
                      List.take_append_of_le_length (by rw [List.length_append]; omega), List.take_of_length_le (by rw [List.length_append]; omega)]
                  rw [this]
                  exact DenL.mono (Le.snoc _ _) _ (k2.append dy)
              · exact append_new_ok (ty := ty) hw (fun j y e => (hdel j y e).1) h1 h2 h3 hz hb ⟨_, c, rfl, hlc, ldn_len k1, .inr ⟨bb, f + o, all, T, fr, rfl, e1, k1⟩⟩ hx k2 dy g5 g4 hr hzv g1 g2
            · cases h
          · cases h
        · cases h
      · cases h
    · cases h
  · cases h

end Go.Proofs.YtbgkljpbemehiaaGreat.Sx
