/- Assertions with quantifiers, slices that are owned or read, append, make, copy. No condition. -/
import Derived.Test.YtbgkljpbemehiaaGreatS4
namespace Go.Proofs.YtbgkljpbemehiaaGreat.Sx

variable {Pr : Program} {B : World} {N : Nat} {ro : Option Nat} {Q : Post}

/-! ### assertions -/
def pu (p : Prop) : HP := fun _ => p
def exH {α : Type} (P : α → HP) : HP := fun h => ∃ x, P x h
def sH (Ps : List HP) : HP := star Ps
def emp : HP := fun _ => True

theorem star_one {P : HP} {h : Hp} : star [P] h ↔ ∃ h1, Hp.sub h1 h ∧ P h1 := by
  constructor
  · rintro ⟨h1, h2, a, _, _, d, _⟩; exact ⟨h1, a, d⟩
  · rintro ⟨h1, a, d⟩; exact ⟨h1, fun _ => none, a, (by intro _ _ x; cases x), fun _ => .inr rfl, d, trivial⟩
theorem star_pu {p : Prop} {L : List HP} {h : Hp} : star (pu p :: L) h ↔ p ∧ star L h := by
  constructor
  · rintro ⟨h1, h2, a, b, c, d, e⟩; exact ⟨d, star_sub b e⟩
  · rintro ⟨d, e⟩; exact ⟨fun _ => none, h, (by intro _ _ x; cases x), Hp.sub_refl _, fun _ => .inl rfl, d, e⟩
theorem star_ex {α : Type} {P : α → HP} {L : List HP} {h : Hp} : star (exH P :: L) h ↔ ∃ x, star (P x :: L) h := by
  constructor
  · rintro ⟨h1, h2, a, b, c, ⟨x, d⟩, e⟩; exact ⟨x, h1, h2, a, b, c, d, e⟩
  · rintro ⟨x, h1, h2, a, b, c, d, e⟩; exact ⟨h1, h2, a, b, c, ⟨x, d⟩, e⟩
theorem star_sH {Ps L : List HP} {h : Hp} : star (sH Ps :: L) h ↔ star (Ps ++ L) h := by
  constructor
  · rintro ⟨h1, h2, a, b, c, d, e⟩; exact star_append.2 ⟨h1, h2, a, b, c, d, e⟩
  · intro k; obtain ⟨h1, h2, a, b, c, d, e⟩ := star_append.1 k; exact ⟨h1, h2, a, b, c, d, e⟩
theorem star_emp {L : List HP} {h : Hp} : star (emp :: L) h ↔ star L h := star_pu (p := True) |>.trans (by simp)

theorem St.ex {α : Type} {P : α → HP} {L : List HP} {w : World} (h : St B (exH P :: L) w) : ∃ x, St B (P x :: L) w := by
  obtain ⟨hh, a, b⟩ := h.own
  obtain ⟨x, b⟩ := star_ex.1 b
  exact ⟨x, h.os, h.tape, h.output, h.size, h.old, hh, a, b⟩
theorem St.pure {p : Prop} {L : List HP} {w : World} (h : St B (pu p :: L) w) : p ∧ St B L w := by
  obtain ⟨hh, a, b⟩ := h.own
  obtain ⟨x, b⟩ := star_pu.1 b
  exact ⟨x, h.os, h.tape, h.output, h.size, h.old, hh, a, b⟩
theorem St.toPure {p : Prop} {L : List HP} {w : World} (hp : p) (h : St B L w) : St B (pu p :: L) w := h.ent fun _ x => star_pu.2 ⟨hp, x⟩
theorem St.sH {Ps L : List HP} {w : World} (h : St B (sH Ps :: L) w) : St B (Ps ++ L) w := h.ent fun _ x => star_sH.1 x
theorem St.toSH {Ps L : List HP} {w : World} (h : St B (Ps ++ L) w) : St B (Sx.sH Ps :: L) w := h.ent fun _ x => star_sH.2 x
theorem St.toEx {α : Type} {P : α → HP} {L : List HP} {w : World} (x : α) (h : St B (P x :: L) w) : St B (exH P :: L) w := h.ent fun _ y => star_ex.2 ⟨x, y⟩
theorem St.drop {A : HP} {L : List HP} {w : World} (h : St B (A :: L) w) : St B L w := h.ent (.drop A L)

theorem W.ex {α : Type} {P : α → HP} {c : Cf} {ρ : Env} {d : List Deferred} {L : List HP} (h : ∀ x, W Pr B N ro Q c ρ d (P x :: L)) : W Pr B N ro Q c ρ d (exH P :: L) := .ghost (fun x => P x :: L) (fun _ hw => hw.ex) h
theorem W.pure {p : Prop} {c : Cf} {ρ : Env} {d : List Deferred} {L : List HP} (h : p → W Pr B N ro Q c ρ d L) : W Pr B N ro Q c ρ d (pu p :: L) :=
  .ghost (α := PLift p) (fun _ => L) (fun _ hw => ⟨⟨hw.pure.1⟩, hw.pure.2⟩) fun x => h x.down
theorem W.one {c : Cf} {ρ : Env} {d : List Deferred} {L L' : List HP} (e : ∀ w, St B L w → St B L' w) (h : W Pr B N ro Q c ρ d L') : W Pr B N ro Q c ρ d L := .ghost (α := Unit) (fun _ => L') (fun w hw => ⟨(), e w hw⟩) fun _ => h
theorem W.sH {Ps : List HP} {c : Cf} {ρ : Env} {d : List Deferred} {L M : List HP} [x : App Ps L M] (h : W Pr B N ro Q c ρ d M) : W Pr B N ro Q c ρ d (sH Ps :: L) := .one (fun _ hw => hw.sH) (x.h ▸ h)
/-- A to the front -/
theorem W.front {A : HP} {c : Cf} {ρ : Env} {d : List Deferred} {L L' : List HP} (p : Pk L A L') (h : W Pr B N ro Q c ρ d (A :: L')) : W Pr B N ro Q c ρ d L := .one (fun _ hw => hw.perm p.perm) h
/-- Ps is A -/
theorem W.fold (A : HP) {Ps : List HP} {c : Cf} {ρ : Env} {d : List Deferred} {L F : List HP} (s : Spl L Ps F) (e : ∀ h, star Ps h → A h) (h : W Pr B N ro Q c ρ d (A :: F)) : W Pr B N ro Q c ρ d L :=
  .one (fun _ hw => (hw.perm s.perm).ent fun hh x => by
    obtain ⟨h1, h2, a, b, c, d, f⟩ := star_append.1 x
    exact ⟨h1, h2, a, b, c, e _ d, f⟩) h

/-- what all worlds of the state say -/
theorem W.know {p : Prop} {c : Cf} {ρ : Env} {d : List Deferred} {L : List HP} (h : ∀ w, St B L w → p) (k : p → W Pr B N ro Q c ρ d L) : W Pr B N ro Q c ρ d L :=
  .ghost (α := PLift p) (fun _ => L) (fun w hw => ⟨⟨h w hw⟩, hw⟩) fun x => k x.down

/-! ### slices -/
/-- a slice that owns its block: n elements of sz cells each, these cells -/
def OSl (e sz : Nat) (v : Value) (n : Nat) (cs : List Value) : HP :=
  exH fun x : Option (Nat × Nat × Nat × (Nat × Nat) × List Value) => match x with
    | none => pu (v = .slice none 0 0 ∧ n = 0 ∧ cs = [])
    | some (b, o, c, fr, all) => sH [pt b (.cells (List.toArray all) e fr), pu (v = .slice (some ⟨b, o, none⟩) n c ∧ n ≤ c ∧ cs.length = n * sz ∧ (all.drop o).take (n * sz) = cs ∧ o + c * sz ≤ all.length ∧ ufz fr all.length)]

theorem OSl.open {e sz n : Nat} {v : Value} {cs : List Value} {L : List HP} {w : World} (h : St B (OSl e sz v n cs :: L) w) :
    (v = .slice none 0 0 ∧ n = 0 ∧ cs = [] ∧ St B L w) ∨
    ∃ b o c fr all, v = .slice (some ⟨b, o, none⟩) n c ∧ n ≤ c ∧ cs.length = n * sz ∧ (all.drop o).take (n * sz) = cs ∧ o + c * sz ≤ all.length ∧ ufz fr all.length ∧ St B (pt b (.cells (List.toArray all) e fr) :: L) w := by
  obtain ⟨x, h⟩ := h.ex
  match x with
  | none => obtain ⟨⟨a, b, c⟩, d⟩ := h.pure; exact .inl ⟨a, b, c, d⟩
  | some (b, o, c, fr, all) =>
    have h2 := h.sH
    have h3 : St B (pu _ :: pt b _ :: L) w := h2.perm (.swap _ _ _)
    obtain ⟨⟨p1, p2, p3, p4, p5, p6⟩, h4⟩ := h3.pure
    exact .inr ⟨b, o, c, fr, all, p1, p2, p3, p4, p5, p6, h4⟩
theorem OSl.close {e sz n b o c : Nat} {fr : Nat × Nat} {all cs : List Value} {L : List HP} {w : World} (h : St B (pt b (.cells (List.toArray all) e fr) :: L) w) (h1 : n ≤ c) (h2 : cs.length = n * sz) (h3 : (all.drop o).take (n * sz) = cs) (h4 : o + c * sz ≤ all.length) (h5 : ufz fr all.length) :
    St B (OSl e sz (.slice (some ⟨b, o, none⟩) n c) n cs :: L) w := by
  refine St.toEx (some (b, o, c, fr, all)) (St.toSH ?_)
  exact (St.toPure ⟨rfl, h1, h2, h3, h4, h5⟩ h).perm (.swap _ _ _)
theorem OSl.closeNil {e sz : Nat} {L : List HP} {w : World} (h : St B L w) : St B (OSl e sz (.slice none 0 0) 0 [] :: L) w := St.toEx none (St.toPure ⟨rfl, rfl, rfl⟩ h)

theorem ldn_of {all : List Value} : ∀ (n o : Nat), o + n ≤ all.length → ldn all o n = some ((all.drop o).take n)
  | 0, o, _ => by simp [ldn]
  | n + 1, o, h => by
    have hlt : o < all.length := by omega
    simp only [ldn, List.getElem?_eq_getElem hlt, ldn_of (all := all) n (o + 1) (by omega)]
    rw [List.drop_eq_getElem_cons hlt]
    rfl
theorem ldn_len {all : List Value} : ∀ {n o : Nat} {vs : List Value}, ldn all o n = some vs → vs.length = n
  | 0, o, vs, h => by simp [ldn] at h; simp [← h]
  | n + 1, o, vs, h => by
    simp only [ldn] at h
    split at h
    · rename_i v vs' _ h2
      simp at h; subst h
      simp [ldn_len h2]
    · cases h

/-- a slice that can be read: n elements, these cells -/
def Rdw (w : World) (v : Value) (sz n : Nat) (cs : List Value) : Prop :=
  ∃ a c, v = .slice a n c ∧ n ≤ c ∧ cs.length = n * sz ∧ (n = 0 ∨ ∃ b o all T fr, a = some ⟨b, o, none⟩ ∧ w.heap[b]? = some (.cells (List.toArray all) T fr) ∧ ldn all o (n * sz) = some cs)
theorem OSl.rd {e sz n : Nat} {v : Value} {cs : List Value} {L : List HP} {w : World} (h : St B (OSl e sz v n cs :: L) w) : Rdw w v sz n cs := by
  rcases OSl.open h with ⟨rfl, rfl, rfl, _⟩ | ⟨b, o, c, fr, all, rfl, h1, h2, h3, h4, _, h5⟩
  · exact ⟨none, 0, rfl, Nat.le_refl _, by simp, .inl rfl⟩
  · exact ⟨some ⟨b, o, none⟩, c, rfl, h1, h2, .inr ⟨b, o, all, e, _, rfl, h5.at.2, by
      have := Nat.mul_le_mul_right sz h1
      rw [ldn_of _ _ (by omega), h3]⟩⟩

theorem Rdw.form {w : World} {v : Value} {sz n : Nat} {cs : List Value} (h : Rdw w v sz n cs) : ∃ a c, v = .slice a n c ∧ n ≤ c ∧ cs.length = n * sz := let ⟨a, c, h1, h2, h3, _⟩ := h; ⟨a, c, h1, h2, h3⟩
theorem Rdw.base {w : World} {a : Option Addr} {sz n c : Nat} {cs : List Value} (h : Rdw w (.slice a n c) sz n cs) (hn : 0 < n) : ∃ b o, a = some ⟨b, o, none⟩ := by
  obtain ⟨a', c', h1, _, _, h4⟩ := h
  simp only [Value.slice.injEq] at h1
  obtain ⟨rfl, _, rfl⟩ := h1
  rcases h4 with h4 | ⟨b, o, _, _, _, h5, _⟩
  · omega
  · exact ⟨b, o, h5⟩
theorem ldn_get {all : List Value} : ∀ {n o i : Nat} {cs : List Value}, ldn all o n = some cs → i < n → all[o + i]? = cs[i]?
  | 0, _, _, _, _, h => by omega
  | n + 1, o, i, cs, h, hi => by
    simp only [ldn] at h
    split at h
    · rename_i v vs h1 h2
      simp at h; subst h
      cases i with
      | zero => simpa using h1
      | succ i => rw [show o + (i + 1) = o + 1 + i by omega, ldn_get h2 (by omega)]; simp
    · cases h
theorem ldn_sub {all : List Value} : ∀ {m n o i : Nat} {cs : List Value}, ldn all o n = some cs → i + m ≤ n → ldn all (o + i) m = some ((cs.drop i).take m)
  | 0, _, _, _, _, _, _ => by simp [ldn]
  | m + 1, n, o, i, cs, h, hi => by
    have h1 := ldn_get (i := i) h (by omega)
    have h2 := ldn_sub (m := m) (i := i + 1) h (by omega)
    have hl := ldn_len h
    have hlt : i < cs.length := by omega
    simp only [ldn]
    rw [h1, List.getElem?_eq_getElem hlt, show o + i + 1 = o + (i + 1) by omega, h2]
    show some _ = some _
    rw [List.drop_eq_getElem_cons (l := cs) hlt]; rfl
/-- an element of one cell -/
theorem Rdw.ld1 {w : World} {b o : Nat} {sz n c i t : Nat} {cs : List Value} {v : Value} [t1 : T1 Pr t] (h : Rdw w (.slice (some ⟨b, o, none⟩) n c) sz n cs) (hv : cs[i]? = some v) : (Instr.loadAt t (.pointer (some ⟨b, o + i, none⟩))).run Pr w = .ok v w := by
  obtain ⟨a', c', h1, _, h3, h4⟩ := h
  simp only [Value.slice.injEq] at h1
  obtain ⟨rfl, _, rfl⟩ := h1
  have hi : i < cs.length := (List.getElem?_eq_some_iff.1 hv).1
  rcases h4 with h4 | ⟨b', o', all, T, fr, h5, h6, h7⟩
  · subst h4; omega
  · simp only [Option.some.injEq, Addr.mk.injEq] at h5
    obtain ⟨rfl, rfl, _⟩ := h5
    have := ldn_get (i := i) h7 (by omega)
    simp [Instr.loadAt, Instr.sureAddr, run_loadVar1 h6 (this.trans hv)]
theorem Rdw.ldA {w : World} {b o : Nat} {sz n c i t m : Nat} {cs : List Value} [ta : TA Pr t m] (h : Rdw w (.slice (some ⟨b, o, none⟩) n c) sz n cs) (hm : 0 < m) (hi : i + m ≤ cs.length) : (Instr.loadAt t (.pointer (some ⟨b, o + i, none⟩))).run Pr w = .ok (.agg ((cs.drop i).take m).toArray) w := by
  obtain ⟨a', c', h1, _, h3, h4⟩ := h
  simp only [Value.slice.injEq] at h1
  obtain ⟨rfl, _, rfl⟩ := h1
  rcases h4 with h4 | ⟨b', o', all, T, fr, h5, h6, h7⟩
  · subst h4; omega
  · simp only [Option.some.injEq, Addr.mk.injEq] at h5
    obtain ⟨rfl, rfl, _⟩ := h5
    have := run_loadVarA (Pr := Pr) (t := t) h6 (ldn_sub (m := m) (i := i) h7 (by omega))
    simp [Instr.loadAt, Instr.sureAddr, this]

theorem run_firstCells {w : World} {v : Value} {sz n : Nat} {cs : List Value} (h : Rdw w v sz n cs) : (Builtin.firstCells sz n v).run Pr w = .ok cs.toArray w := by
  obtain ⟨a, c, rfl, hc, hl, h⟩ := h
  rcases h with rfl | ⟨b, o, all, T, fr, rfl, hb, hl'⟩
  · have : cs = [] := by simpa using hl
    subst this
    cases a with
    | none => simp [Builtin.firstCells]
    | some a => simp [Builtin.firstCells, loadCells, loadCellsFrom]
  · simp only [Builtin.firstCells, run_loadCells hb hl']
theorem run_lenOf {w : World} {v : Value} {sz n : Nat} {cs : List Value} (h : Rdw w v sz n cs) : (Builtin.lenOf v).run Pr w = .ok n w := by
  obtain ⟨a, c, rfl, _⟩ := h
  simp [Builtin.lenOf]

/-- cells written over others from a place on -/
def over (all : List Value) (o : Nat) (vs : List Value) : List Value := all.take o ++ vs ++ all.drop (o + vs.length)
theorem setsR_over : ∀ (vs all : List Value) (o : Nat), o + vs.length ≤ all.length → (∀ v ∈ vs, v.oneCell' = true) → SetsR all o vs (over all o vs)
  | [], all, o, _, _ => by
    have : over all o [] = all := by simp [over]
    rw [this]; exact .nil _ _
  | v :: vs, all, o, h, h1 => by
    simp only [List.length_cons] at h
    have hlt : o < all.length := by omega
    have := setsR_over vs (all.set o v) (o + 1) (by simp; omega) (fun x hx => h1 x (by simp [hx]))
    have e : over (all.set o v) (o + 1) vs = over all o (v :: vs) := by
      unfold over
      rw [List.drop_set_of_lt (by omega)]
      have : (all.set o v).take (o + 1) = all.take o ++ [v] := by
        rw [List.take_succ_eq_append_getElem (by simpa using hlt)]
        rw [List.getElem_set_self]
        rw [List.take_set_of_le (Nat.le_refl o)]
      rw [this]
      simp [List.append_assoc]
      congr 1
      omega
    rw [e] at this
    exact .cons rfl hlt (h1 v (by simp)) this
theorem over_len {all vs : List Value} {o : Nat} (h : o + vs.length ≤ all.length) : (over all o vs).length = all.length := by simp [over]; omega

theorem cap_le (need c : Nat) (h : c < need) : Builtin.nextslicecap need c ≤ 2 * need := by
  unfold Builtin.nextslicecap
  split
  · omega
  · split
    · omega
    · have : ∀ r x, x ≤ need → Builtin.growBy need r x ≤ 2 * need := by
        intro r
        induction r with
        | zero => intro x hx; simp [Builtin.growBy]; omega
        | succ r ih =>
          intro x hx
          simp only [Builtin.growBy]
          split
          · omega
          · by_cases hh : x + (x + 768) / 4 ≤ need
            · exact ih _ hh
            · have : ∀ r, Builtin.growBy need r (x + (x + 768) / 4) = x + (x + 768) / 4 := by
                intro r; cases r <;> simp [Builtin.growBy]; omega
              rw [this]; omega
      exact this _ _ (by omega)

theorem zeroCells_size (z : Array Value) (n : Nat) : (Builtin.zeroCells z n).size = n * z.size := by simp [Builtin.zeroCells]

/-- append onto an owned slice, of what can be read -/
theorem run_append {t t2 e sz by' n n2 : Nat} {ty : TypeId} {z : List Value} {v x : Value} {cs xs : List Value} {L : List HP} {w : World} [ts : TS Pr t e sz by'] [tz : TZ Pr e z] [lz : LenIs z sz] [t2s : TSl Pr t2]
    (h : St B (OSl e sz v n cs :: L) w) (hx : Rdw w x sz n2 xs) (h1 : ∀ u ∈ xs, u.oneCell' = true) (hb : (n + n2) * by' ≤ 140737488351232) (hn : n + n2 ≤ 140737488351232) :
    ∃ v' w', (Builtin.append_ #[t, t2] ty #[v, x]).run Pr w = .ok v' w' ∧ St B (OSl e sz v' (n + n2) (cs ++ xs) :: L) w' := by
  obtain ⟨hu, hi⟩ := ts.h
  obtain ⟨el, hu2⟩ := TSl.el (Pr := Pr) (t := t2)
  obtain ⟨info, hinf, hsz, hbyt⟩ : ∃ i, Pr.info? e = some i ∧ i.size = sz ∧ i.bytes = by' := by
    cases hh : Pr.info? e with
    | none => rw [hh] at hi; cases hi
    | some i => rw [hh] at hi; simp at hi; exact ⟨i, rfl, hi.1, hi.2⟩
  obtain ⟨a2, c2, hxe, hc2, hxl, hx'⟩ := id hx
  have hrv := OSl.rd h
  obtain ⟨a, c, hve, hcn, hcl, _⟩ := id hrv
  have hsize : ∀ w, (sizeOf e).run Pr w = .ok sz w := fun w => run_sizeOf' (by simp [hinf, hsz]) w
  have hinfo : ∀ w, (typeInfo e).run Pr w = .ok info w := fun w => by simp [typeInfo, hinf]
  have hfx : ∀ w', Rdw w' x sz n2 xs → (Builtin.firstCells sz n2 x).run Pr w' = .ok xs.toArray w' := fun w' h => run_firstCells h
  have hmatch : ∀ w, (do pure ((← underlying t2) matches .int _) : Sem Bool).run Pr w = .ok false w := fun w => by simp [run_underlying hu2]
  subst hve
  subst hxe
  by_cases hroom : n + n2 ≤ c
  · -- it has room
    rcases OSl.open h with ⟨hv, hn0, hcs, h'⟩ | ⟨b, o, c', fr, all, hv, p1, p2, p3, p4, p5, h'⟩
    · simp only [Value.slice.injEq] at hv
      obtain ⟨rfl, rfl, rfl⟩ := hv
      have : n2 = 0 := by omega
      subst this
      have hxs : xs = [] := by simpa using hxl
      subst hxs; subst hcs
      refine ⟨.slice none 0 0, w, ?_, by simpa using OSl.closeNil h'⟩
      simp [Builtin.append_, run_underlying hu, run_underlying hu2, hsize, Builtin.lenOf, hfx _ hx]
    · simp only [Value.slice.injEq, Option.some.injEq] at hv
      obtain ⟨rfl, _, rfl⟩ := hv
      have hle := Nat.mul_le_mul_right sz hroom
      rw [Nat.add_mul] at hle
      have hxl' : xs.length = n2 * sz := hxl
      obtain ⟨w', hr, hst⟩ := run_storeCellsF (Pr := Pr) (o := o + n * sz) (i := 0) (setsR_over xs all (o + n * sz) (by omega) h1) p5 h'
      refine ⟨.slice (some ⟨b, o, none⟩) (n + n2) c, w', ?_, OSl.close hst hroom (by rw [List.length_append, hcl, hxl', Nat.add_mul]) ?_ (by rw [over_len (by omega)]; exact p4) (by rw [over_len (by omega)]; exact p5)⟩
      · simp [Builtin.append_, run_underlying hu, run_underlying hu2, hsize, Builtin.lenOf, hfx _ hx, hroom, Addr.add_none, hr]
      · have hlen1 : (all.take (o + n * sz)).length = o + n * sz := by rw [List.length_take]; omega
        rw [over, List.append_assoc, List.drop_append_of_le_length (by rw [hlen1]; omega), List.drop_take, show o + n * sz - o = n * sz by omega, p3, ← List.append_assoc,
          List.take_append_of_le_length (by rw [List.length_append, hcl, hxl', Nat.add_mul]; exact Nat.le_refl _), List.take_of_length_le (by rw [List.length_append, hcl, hxl', Nat.add_mul]; exact Nat.le_refl _)]
  · -- a new array
    obtain ⟨zv, hz, hzc⟩ := run_zeroValue' (Pr := Pr) (t := e) (z := z.toArray) tz.h w
    have hcap := cap_le (n + n2) c (by omega)
    have hcap2 : Builtin.nextslicecap (n + n2) c * by' ≤ 2 ^ 48 := by
      have := Nat.mul_le_mul_right by' hcap
      rw [Nat.mul_assoc] at this
      omega
    obtain ⟨nc, hnc⟩ : ∃ nc, nc = (n + n2) + w.tape w.drawn (.appendCap (n + n2) c e) % (2 ^ 63 - (n + n2)) := ⟨_, rfl⟩
    have hge : n + n2 ≤ nc := by omega
    have hdr : ∀ o : Obj, (w.drew).heap[(0:Nat)]? = w.heap[(0:Nat)]? := fun _ => rfl
    have r1 : Rdw w.drew (.slice a n c) sz n cs := hrv
    have r2 : Rdw w.drew (.slice a2 n2 c2) sz n2 xs := hx
    obtain ⟨zv', hz', hzc'⟩ := run_zeroValue' (Pr := Pr) (t := e) (z := z.toArray) tz.h w.drew
    have hst : St B L w.drew := h.drop.drew
    refine ⟨.slice (some ⟨w.drew.heap.size, 0, none⟩) (n + n2) nc, w.drew.alloc (.cells (cs ++ xs ++ (Builtin.zeroCells z.toArray (nc - (n + n2))).toList).toArray e), ?_, ?_⟩
    · have e1 : ¬ ((n + n2 : Nat) : Int) > IntKind.i64.max := by simp; omega
      have e2 : ¬ Builtin.nextslicecap (n + n2) c * info.bytes > 2 ^ 48 := by rw [hbyt]; omega
      simp only [Builtin.append_, List.getElem?_toArray, List.getElem?_cons_zero, List.getElem?_cons_succ, Sem.run_bind, run_underlying hu, Result.andThen_ok, hsize, run_underlying hu2, Sem.run_pure, Bool.false_eq_true, if_false, Builtin.lenOf, hroom,
        Sem.run_ite, hinfo, hbyt, run_askRoom, run_choose, Question.forced, Question.cut]
      simp only [Bool.not_false, if_true, e1, false_and, if_false, Bool.false_eq_true]
      rw [if_neg (by omega)]
      simp only [Result.andThen_ok, World.drew_eq, run_firstCells r1, run_firstCells r2, hz', hzc', ← hnc, newRow, Sem.run_bind, run_newObj, World.alloc_eq, Sem.run_pure]
      have earr : cs.toArray ++ xs.toArray ++ Builtin.zeroCells z.toArray (nc - (n + n2)) = (cs ++ xs ++ (Builtin.zeroCells z.toArray (nc - (n + n2))).toList).toArray := by apply Array.toList_inj.1; simp
      rw [earr]
    · have hsz2 : (Builtin.zeroCells z.toArray (nc - (n + n2))).toList.length = (nc - (n + n2)) * sz := by simp [zeroCells_size, lz.h]
      have hlen : (cs ++ xs ++ (Builtin.zeroCells z.toArray (nc - (n + n2))).toList).length = nc * sz := by
        rw [List.length_append, List.length_append, hsz2, hcl, hxl, ← Nat.add_mul, ← Nat.add_mul]; congr 1; omega
      refine OSl.close (hst.new _) hge (by rw [List.length_append, hcl, hxl, Nat.add_mul]) ?_ (by rw [hlen]; omega) (ufz_zero _)
      rw [List.drop_zero, List.take_append_of_le_length (by rw [List.length_append, hcl, hxl, Nat.add_mul]; exact Nat.le_refl _), List.take_of_length_le (by rw [List.length_append, hcl, hxl, Nat.add_mul]; exact Nat.le_refl _)]


theorem One.all_nil : ∀ u ∈ ([] : List Value), u.oneCell' = true := by simp
/-- the state behind is L' of a value -/
theorem OSl.form {e sz n : Nat} {v : Value} {cs : List Value} {L : List HP} {w : World} (h : St B (OSl e sz v n cs :: L) w) : ∃ a c, v = .slice a n c := by
  obtain ⟨a, c, h, _⟩ := OSl.rd h; exact ⟨a, c, h⟩

theorem W.append {s x : Operand} {t t2 e sz by' n n2 : Nat} {ty : TypeId} {dst : Tmp} {k : Kt} {ρ : Env} {d : List Deferred} {L L' : List HP} {z : List Value} {v xv : Value} {cs : List Value} (xs : List Value) [ts : TS Pr t e sz by'] [tz : TZ Pr e z] [lz : LenIs z sz] [t2s : TSl Pr t2]
    (es : evo ρ s = some v) (ex' : evo ρ x = some xv) (b : Nat.blt dst N = true) (p : Pk L (OSl e sz v n cs) L') (hx : ∀ w, St B (OSl e sz v n cs :: L') w → Rdw w xv sz n2 xs) (h1 : ∀ u ∈ xs, u.oneCell' = true)
    (hb : (n + n2) * by' ≤ 140737488351232 ∧ n + n2 ≤ 140737488351232) (h : ∀ a c, W Pr B N ro Q (.run k) ((dst, .slice a (n + n2) c) :: ρ) d (OSl e sz (.slice a (n + n2) c) (n + n2) (cs ++ xs) :: L')) :
    W Pr B N ro Q (.op (.call { callee := .builtin .append, args := #[s, x], argTypes := #[t, t2] }) ty (some dst) k) ρ d L := by
  refine .opS (fun v' L'' => (∃ a c, v' = .slice a (n + n2) c) ∧ L'' = OSl e sz v' (n + n2) (cs ++ xs) :: L') b (by intro c h; cases h) (fun ev w he hw => ?_) ?_
  · have hw' := hw.perm p.perm
    obtain ⟨v', w', hr, hst⟩ := run_append (Pr := Pr) (t := t) (t2 := t2) (ty := ty) hw' (hx w hw') h1 hb.1 hb.2
    refine ⟨v', w', _, .inl ?_, hst, OSl.form hst, rfl⟩
    simp [Sx.ex, execOp, resolve, invoke, builtin, he _ _ es, he _ _ ex', hr]
  · rintro v' L'' ⟨⟨a, c, rfl⟩, rfl⟩
    exact h a c
/-- .. of a literal, or of what else lies in a known block -/
theorem rd_blk {L : List HP} {b o n c sz : Nat} {all : List Value} {T : TypeId} {fr : Nat × Nat} {xs : List Value} [hb : Has B L b (.cells (List.toArray all) T fr)] (hc : n ≤ c) (h : ldn all o (n * sz) = some xs) : ∀ w, St B L w → Rdw w (.slice (some ⟨b, o, none⟩) n c) sz n xs :=
  fun w hw => ⟨_, c, rfl, hc, ldn_len h, .inr ⟨b, o, all, T, fr, rfl, hb.h w hw, h⟩⟩
theorem rd_own {e sz n : Nat} {v : Value} {cs : List Value} {L L' : List HP} (p : Pk L (OSl e sz v n cs) L') : ∀ w, St B L w → Rdw w v sz n cs := fun _ hw => OSl.rd (hw.perm p.perm)
theorem rd_nil {L : List HP} {c sz : Nat} : ∀ w, St B L w → Rdw w (.slice none 0 c) sz 0 [] := fun _ _ => ⟨_, c, rfl, Nat.zero_le _, by simp, .inl rfl⟩

theorem zeros_len {z : List Value} {sz : Nat} [lz : LenIs z sz] (n : Nat) : (zeros z n).length = n * sz := by
  induction n with
  | zero => simp [zeros]
  | succ n ih => simp [zeros, ih, lz.h, Nat.add_mul]; omega
theorem zeros_take {z : List Value} {sz : Nat} [lz : LenIs z sz] : ∀ (n c : Nat), n ≤ c → (zeros z c).take (n * sz) = zeros z n
  | 0, c, _ => by simp [zeros]
  | n + 1, 0, h => by omega
  | n + 1, c + 1, h => by
    simp only [zeros]
    have hl := lz.h
    rw [show (n + 1) * sz = z.length + n * sz by rw [hl, Nat.add_mul]; omega, List.take_length_add_append, zeros_take n c (by omega)]
theorem run_make {t e sz by' n c : Nat} {k1 k2 : IntKind} {z : List Value} [ts : TS Pr t e sz by'] [tz : TZ Pr e z] [lz : LenIs z sz] {L : List HP} {w : World} (hn : n ≤ c) (hb : c * by' ≤ 140737488351232) (hc : c ≤ 140737488351232) (h : St B L w) :
    ∃ bb w', (Instr.makeSlice t (.int k1 n) (.int k2 c)).run Pr w = .ok (.slice (some ⟨bb, 0, none⟩) n c) w' ∧ St B (OSl e sz (.slice (some ⟨bb, 0, none⟩) n c) n (zeros z n) :: L) w' := by
  obtain ⟨hu, hi⟩ := ts.h
  obtain ⟨info, hinf, hsz, hbyt⟩ : ∃ i, Pr.info? e = some i ∧ i.size = sz ∧ i.bytes = by' := by
    cases hh : Pr.info? e with
    | none => rw [hh] at hi; cases hi
    | some i => rw [hh] at hi; simp at hi; exact ⟨i, rfl, hi.1, hi.2⟩
  have hsize : ∀ w, (sizeOf e).run Pr w = .ok sz w := fun w => run_sizeOf' (by simp [hinf, hsz]) w
  have hinfo : ∀ w, (typeInfo e).run Pr w = .ok info w := fun w => by simp [typeInfo, hinf]
  obtain ⟨zv, hz, hzc⟩ := run_zeroValue' (Pr := Pr) (t := e) (z := z.toArray) tz.h w
  have w1 : IntKind.i64.wrap (c : Int) = c := wrap_kin (by simp only [kin]; omega)
  have w2 : IntKind.i64.wrap (n : Int) = n := wrap_kin (by simp only [kin]; omega)
  have hbi : ((c * by' : Nat) : Int) ≤ 140737488351232 := by omega
  have hbi2 : (by' : Int) * (c : Int) ≤ 140737488351232 := by rw [Int.mul_comm]; simpa using hbi
  have t1 : ¬ ((c : Int) < 0 || decide ((by' : Int) * c > 2 ^ 48)) = true := by
    simp only [Bool.or_eq_true, decide_eq_true_eq, not_or]
    exact ⟨by omega, by omega⟩
  have t2 : ¬ ((c : Int) < 0) := by omega
  have t3 : ¬ (by' : Int) * c > 2 ^ 48 := by omega
  have t4 : ¬ ((n : Int) < 0) := by omega
  have t5 : ¬ ((n : Int) > c) := by omega
  refine ⟨w.heap.size, w.alloc (.cells (zeros z c).toArray e (0, 0)), ?_, ?_⟩
  · simp only [Instr.makeSlice, Sem.run_bind, run_underlying hu, Result.andThen_ok, asInt, Sem.run_pure, hinfo, hbyt, w1, w2]
    simp only [asIntOf, Sem.run_pure, Result.andThen_ok, w1, w2, t2, t3, t4, t5, decide_false, Bool.or_self, Bool.false_eq_true, if_false, Sem.run_bind, or_self]
    simp only [run_askRoom, Result.andThen_ok, hsize, Int.toNat_natCast]
    by_cases h0 : c * sz = 0
    · have hz0 : zeros z c = [] := List.eq_nil_of_length_eq_zero (by rw [zeros_len (sz := sz), h0])
      have e0 : (Array.map (fun x => (#[] : Array Value)[x % (#[] : Array Value).size]!) (Array.range 0)) = (zeros z c).toArray := by rw [hz0]; simp
      simp only [h0, if_true, Sem.run_bind, Sem.run_pure, Result.andThen_ok]
      rw [e0]; simp [newRow]
    · have := zeros_get z c
      rw [lz.h] at this
      simp only [h0, if_false, Sem.run_bind, run_askRoom, Result.andThen_ok, hz, Sem.run_pure, hzc]
      rw [this]; simp [newRow]
  · refine OSl.close (h.new _) hn (zeros_len n) ?_ (by rw [zeros_len (sz := sz)]; omega) (ufz_zero _)
    rw [List.drop_zero]; exact zeros_take n c hn
/-- make([]T, n, c) -/
theorem W.make {l cc : Operand} {t e sz by' : Nat} {k1 k2 : IntKind} (n c : Nat) {i j : Int} {ty : TypeId} {dst : Tmp} {k : Kt} {ρ : Env} {d : List Deferred} {L : List HP} {z : List Value} [ts : TS Pr t e sz by'] [tz : TZ Pr e z] [lz : LenIs z sz]
    (el : evo ρ l = some (.int k1 i)) (ec : evo ρ cc = some (.int k2 j)) (b : Nat.blt dst N = true) (hi : i = (n : Nat)) (hj : j = (c : Nat)) (hb : n ≤ c ∧ c * by' ≤ 140737488351232 ∧ c ≤ 140737488351232)
    (h : ∀ bb, W Pr B N ro Q (.run k) ((dst, .slice (some ⟨bb, 0, none⟩) n c) :: ρ) d (OSl e sz (.slice (some ⟨bb, 0, none⟩) n c) n (zeros z n) :: L)) :
    W Pr B N ro Q (.op (.makeSlice t l cc) ty (some dst) k) ρ d L := by
  subst hi; subst hj
  refine .opS (fun v' L'' => ∃ bb, v' = .slice (some ⟨bb, 0, none⟩) n c ∧ L'' = OSl e sz v' n (zeros z n) :: L) b (by intro c h; cases h) (fun ev w he hw => ?_) ?_
  · obtain ⟨bb, w', h1, h2⟩ := run_make (Pr := Pr) (t := t) (k1 := k1) (k2 := k2) hb.1 hb.2.1 hb.2.2 hw
    exact ⟨_, w', _, .inl (by simp [Sx.ex, execOp, he _ _ el, he _ _ ec, h1]), h2, bb, rfl, rfl⟩
  · rintro v' L'' ⟨bb, rfl, rfl⟩; exact h bb

/-! ### cells at a place that is computed -/
theorem ld_at {L : List HP} {t bb o T : Nat} {cs : List Value} {fr : Nat × Nat} {v : Value} [t1 : T1 Pr t] [hb : Has B L bb (.cells (List.toArray cs) T fr)] (ec : cs[o]? = some v) : ∀ w, St B L w → ∃ w', (Instr.loadAt t (.pointer (some ⟨bb, o, none⟩))).run Pr w = .ok v w' ∧ St B L w' :=
  fun w hw => ⟨w, by simp [Instr.loadAt, Instr.sureAddr, run_loadVar1 (hb.h w hw) ec], hw⟩
theorem ld_atA {L : List HP} {t n bb o T : Nat} {cs vs : List Value} {fr : Nat × Nat} [ta : TA Pr t n] [hb : Has B L bb (.cells (List.toArray cs) T fr)] (ec : ldn cs o n = some vs) : ∀ w, St B L w → ∃ w', (Instr.loadAt t (.pointer (some ⟨bb, o, none⟩))).run Pr w = .ok (.agg vs.toArray) w' ∧ St B L w' :=
  fun w hw => ⟨w, by simp [Instr.loadAt, Instr.sureAddr, run_loadVarA (hb.h w hw) ec], hw⟩
theorem run_storeVarF {T b o t n : Nat} {fr : Nat × Nat} {v : Value} {vs cs cs' : List Value} {L : List HP} {w : World} (hz : (Pr.info? t).map (·.size) = some n) (hn : vs.length = n) (hv : v.cells = vs.toArray) (h : SetsR cs o vs cs') (hf : ufz fr cs.length) (hw : St B (pt b (.cells cs.toArray T fr) :: L) w) :
    ∃ w', (storeVar t ⟨b, o, none⟩ v).run Pr w = .ok () w' ∧ St B (pt b (.cells cs'.toArray T fr) :: L) w' := by
  obtain ⟨w', hr, hs⟩ := run_storeCellsF (Pr := Pr) (o := o) (i := 0) (by simpa using h) hf hw
  refine ⟨w', ?_, hs⟩
  simp only [storeVar, Sem.run_bind, run_sizeOf' hz, Result.andThen_ok, hv]
  simp [hn, hr]
/-- a store of values over cells -/
theorem st_over {L L' : List HP} {t n bb o T : Nat} {cs vs : List Value} {fr : Nat × Nat} {v : Value} [hz : TZn Pr t n] (p : PickPt L bb (.cells (List.toArray cs) T fr) L') (hv : v.cells = vs.toArray) (hn : vs.length = n) (h1 : ∀ u ∈ vs, u.oneCell' = true) (hl : o + n ≤ cs.length) (hf : ufz fr cs.length) :
    ∀ w, St B L w → ∃ w', (Instr.storeAt t (.pointer (some ⟨bb, o, none⟩)) v).run Pr w = .ok () w' ∧ St B (pt bb (.cells (List.toArray (over cs o vs)) T fr) :: L') w' := fun w hw => by
  obtain ⟨w', h2, h3⟩ := run_storeVarF (Pr := Pr) hz.h hn hv (setsR_over vs cs o (by omega) h1) hf (hw.perm p.perm)
  exact ⟨w', by simp [Instr.storeAt, Instr.sureAddr, h2], h3⟩
theorem cells_one {v : Value} (h : v.oneCell' = true) : v.cells = [v].toArray := by
  cases v <;> first | rfl | (simp [Value.oneCell'] at h)
theorem st_at {L L' : List HP} {t bb o T : Nat} {cs : List Value} {fr : Nat × Nat} {v : Value} [hz : TZn Pr t 1] [o1 : One v] (p : PickPt L bb (.cells (List.toArray cs) T fr) L') (hl : o < cs.length) (hf : ufz fr cs.length) :
    ∀ w, St B L w → ∃ w', (Instr.storeAt t (.pointer (some ⟨bb, o, none⟩)) v).run Pr w = .ok () w' ∧ St B (pt bb (.cells (List.toArray (cs.set o v)) T fr) :: L') w' := fun w hw => by
  obtain ⟨w', h2, h3⟩ := run_storeVarF (Pr := Pr) hz.h (vs := [v]) rfl (cells_one o1.h) (SetsR.cons rfl hl o1.h (SetsR.nil _ _)) hf (hw.perm p.perm)
  exact ⟨w', by simp [Instr.storeAt, Instr.sureAddr, h2], h3⟩

theorem OSl.ofPt {e sz n b o c : Nat} {fr : Nat × Nat} {all cs : List Value} (h1 : n ≤ c) (h2 : cs.length = n * sz) (h3 : (all.drop o).take (n * sz) = cs) (h4 : o + c * sz ≤ all.length) (h5 : ufz fr all.length) :
    ∀ h, star [pt b (.cells (List.toArray all) e fr)] h → OSl e sz (.slice (some ⟨b, o, none⟩) n c) n cs h := fun h hs => by
  refine ⟨some (b, o, c, fr, all), ?_⟩
  show star [pt b _, pu _] h
  obtain ⟨h1', h2', a, b', c', d, _⟩ := hs
  exact ⟨h1', h2', a, b', c', d, h2', fun _ => none, Hp.sub_refl _, (by intro _ _ x; cases x), fun _ => .inr rfl, ⟨rfl, h1, h2, h3, h4, h5⟩, trivial⟩
/-- a block of our own as a slice -/
theorem W.own {e sz n b : Nat} {cs : List Value} {c : Cf} {ρ : Env} {d : List Deferred} {L F : List HP} (s : Spl L [cl b e cs] F) (hl : cs.length = n * sz) (h : W Pr B N ro Q c ρ d (OSl e sz (.slice (some ⟨b, 0, none⟩) n n) n cs :: F)) : W Pr B N ro Q c ρ d L :=
  .fold _ s (OSl.ofPt (Nat.le_refl _) hl (by rw [List.drop_zero, List.take_of_length_le (by omega)]) (by omega) (ufz_zero _)) h

/-! ### what can be read, as an assertion -/
/-- these blocks (and what was there before) let R hold -/
def rdA (B : World) (R : World → Prop) : HP := fun h => ∀ w : World, B.heap.size ≤ w.heap.size → (∀ b, b < B.heap.size → w.heap[b]? = B.heap[b]?) → (∀ b o, h b = some o → B.heap.size ≤ b ∧ w.heap[b]? = some o) → R w
theorem rdA.use {R : World → Prop} {L : List HP} {w : World} (h : St B (rdA B R :: L) w) : R w := by
  obtain ⟨hh, a, h1, h2, s, _, _, e, _⟩ := h.own
  exact e w h.size h.old fun b o x => a b o (s _ _ x)
/-- of the heap alone -/
def Hpo (R : World → Prop) : Prop := ∀ w w' : World, w.heap = w'.heap → R w → R w'
theorem rdA.mk {R : World → Prop} {Ps : List HP} (hR : Hpo R) (e : ∀ w, St B Ps w → R w) : ∀ h, star Ps h → rdA B R h := fun h hs w h1 h2 h3 =>
  hR { w with os := B.os, tape := B.tape, output := B.output } w rfl (e _ ⟨rfl, rfl, rfl, h1, h2, h, h3, hs⟩)
theorem Hpo.rdw (v : Value) (sz n : Nat) (cs : List Value) : Hpo fun w => Rdw w v sz n cs := fun w w' e h => by
  obtain ⟨a, c, h1, h2, h3, h4⟩ := h
  exact ⟨a, c, h1, h2, h3, h4.imp id fun ⟨b, o, all, T, fr, h5, h6, h7⟩ => ⟨b, o, all, T, fr, h5, e ▸ h6, h7⟩⟩
theorem Hpo.and {R S : World → Prop} (a : Hpo R) (b : Hpo S) : Hpo fun w => R w ∧ S w := fun w w' e h => ⟨a w w' e h.1, b w w' e h.2⟩
theorem Hpo.all {α : Type} {p : α → Prop} {R : α → World → Prop} (a : ∀ x, Hpo (R x)) : Hpo fun w => ∀ x, p x → R x w := fun w w' e h x hx => a x w w' e (h x hx)
/-- blocks that are read alone from here on -/
theorem W.readOnly (R : World → Prop) {Ps : List HP} {c : Cf} {ρ : Env} {d : List Deferred} {L F : List HP} (s : Spl L Ps F) (hR : Hpo R) (e : ∀ w, St B Ps w → R w) (h : W Pr B N ro Q c ρ d (rdA B R :: F)) : W Pr B N ro Q c ρ d L :=
  .fold (rdA B R) s (rdA.mk hR e) h
/-- a part of a slice that is read -/
theorem Rdw.sub {w : World} {b o n c sz i k c' : Nat} {cs : List Value} (h : Rdw w (.slice (some ⟨b, o, none⟩) n c) sz n cs) (hk : k ≤ c') (hi : i + k ≤ n) {o' : Nat} (ho : 0 < k → o' = o + i * sz) : Rdw w (.slice (some ⟨b, o', none⟩) k c') sz k ((cs.drop (i * sz)).take (k * sz)) := by
  obtain ⟨a, c2, h1, h2, h3, h4⟩ := h
  simp only [Value.slice.injEq] at h1
  obtain ⟨rfl, _, rfl⟩ := h1
  have hm := Nat.mul_le_mul_right sz hi
  rw [Nat.add_mul] at hm
  refine ⟨_, c', rfl, hk, by rw [List.length_take, List.length_drop]; omega, ?_⟩
  by_cases h0 : k = 0
  · exact .inl h0
  · right
    rcases h4 with h4 | ⟨b', o2, all, T, fr, h5, h6, h7⟩
    · omega
    · simp only [Option.some.injEq, Addr.mk.injEq] at h5
      obtain ⟨rfl, rfl, _⟩ := h5
      exact ⟨b, o', all, T, fr, rfl, h6, by rw [ho (by omega)]; exact ldn_sub h7 hm⟩

end Go.Proofs.YtbgkljpbemehiaaGreat.Sx
