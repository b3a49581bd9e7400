/- A run with known values: frames, and how they are to those of the machine. No condition. -/
import Derived.Test.YtbgkljpbemehiaaGreatV6
import Derived.Test.YtbgkljpbemehiaaGreatS6
import Derived.Laws.LoneSync
set_option maxHeartbeats 2000000
namespace Go.Proofs.YtbgkljpbemehiaaGreat.Sx

variable {ω : List Value} {β β' : List (Option B3)} {B : World} {H : HV} {nx : Nat} {w : World} {Pr : Program} {f0 L : Nat}

def stripP (l : List (Nat × Nat × V)) : List (Nat × Nat × Value) := l.map fun p => (p.1, p.2.1, undef)
theorem stripP_fst (l : List (Nat × Nat × V)) : (stripP l).map (·.1) = l.map (·.1) := by simp [stripP, Function.comp_def]
theorem stripP_snd (l : List (Nat × Nat × V)) : (stripP l).map (·.2.1) = l.map (·.2.1) := by simp [stripP, Function.comp_def]

def ItR (β : List (Option B3)) : IT → Item → Prop
  | .code c, x => x = .code c
  | .inBlock id, x => x = .inBlock id
  | .inLoop c, x => x = .inLoop c
  | .inScope c, x => x = .inScope c
  | .reg ops t, x => x = .inRegion ops (t.map (·.1)) ∧ ∀ p ∈ t, ops[p.1]? = some p.2
  | .dr _ _ _ _, _ => False
  | .endRF l, x => ∃ b f n, bt β l = some (b, f, n) ∧ x = .endRangeFunc b
  | .begR, x => x = .beginRound
theorem ItR.mono (hl : Le β β') {a : IT} {x : Item} (h : ItR β a x) : ItR β' a x := by
  cases a <;> first | exact h | (obtain ⟨b, f, n, e, r⟩ := h; exact ⟨b, f, n, hl _ _ e, r⟩)
def ItL (β : List (Option B3)) : List IT → List Item → Prop
  | [], l => l = []
  | a :: as, l => ∃ x r, l = x :: r ∧ ItR β a x ∧ ItL β as r
theorem ItL.mono (hl : Le β β') : ∀ {as : List IT} {l : List Item}, ItL β as l → ItL β' as l
  | [], _, h => h
  | _ :: _, _, ⟨x, r, e, a, b⟩ => ⟨x, r, e, a.mono hl, ItL.mono hl b⟩

/-- slots, within a region whose order is drawn -/
def RelDA (ω : List Value) (β : List (Option B3)) (tm : Tr V) (pend : List (Nat × Nat × V)) (r : List Nat) (tmps : Array Value) : Prop :=
  (∀ t v, tm.get t = some v → t ∉ pend.map (·.2.1) → Den ω β v (tmps.getD t undef)) ∧ ∀ p ∈ pend, p.1 ∉ r → Den ω β p.2.2 (tmps.getD p.2.1 undef)
theorem RelDA.mono (hl : Le β β') {tm : Tr V} {pend : List (Nat × Nat × V)} {r : List Nat} {tmps : Array Value} (h : RelDA ω β tm pend r tmps) : RelDA ω β' tm pend r tmps :=
  ⟨fun t v e n => Den.mono hl v (h.1 t v e n), fun p hp n => Den.mono hl _ (h.2 p hp n)⟩

/-- the numbers of the blocks that operations of a drawn order make: theirs alone, and without a place until they have been run -/
def isNew (ops : Array Oper) (i : Nat) : Prop := ∃ o, ops[i]? = some o ∧ pureOp o.op = false
structure PenR (L : Nat) (β : List (Option B3)) (ops : Array Oper) (pend : List (Nat × Nat × V)) (r : List Nat) : Prop where
  bnd : ∀ p ∈ pend, isNew ops p.1 → ∀ n, blkV p.2.2 = some n → L ≤ n ∧ n < β.length
  non : ∀ p ∈ pend, isNew ops p.1 → p.1 ∈ r → ∀ n, blkV p.2.2 = some n → bt β n = none
  low : L ≤ β.length
  apart : ∀ p ∈ pend, ∀ q ∈ pend, isNew ops p.1 → isNew ops q.1 → ∀ n, blkV p.2.2 = some n → blkV q.2.2 = some n → p = q
theorem PenR.mono (hl : LeA β β') {ops : Array Oper} {pend : List (Nat × Nat × V)} {r : List Nat} (h : PenR L β ops pend r) : PenR L β' ops pend r :=
  ⟨fun p hp hi n hn => ⟨(h.bnd p hp hi n hn).1, Nat.lt_of_lt_of_le (h.bnd p hp hi n hn).2 hl.len⟩, fun p hp hi hr n hn => hl.res n (h.bnd p hp hi n hn).2 (h.non p hp hi hr n hn), Nat.le_trans h.low hl.len, h.apart⟩
theorem PenR.sub {ops : Array Oper} {pend pend' : List (Nat × Nat × V)} {r r' : List Nat} (h : PenR L β ops pend r) (hs : ∀ p ∈ pend', p ∈ pend) (hr : ∀ j ∈ r', j ∈ r) : PenR L β ops pend' r' :=
  ⟨fun p hp => h.bnd p (hs p hp), fun p hp hi hj => h.non p (hs p hp) hi (hr _ hj), h.low, fun p hp q hq => h.apart p (hs p hp) q (hs q hq)⟩

def TdR (ω : List Value) (L : Nat) (β : List (Option B3)) (k : List IT) (its : List Item) (tm : Tr V) (tmps : Array Value) : Prop := match k with
  | .dr ops ms todo pend :: k => ∃ r K, its = .inRegion ops r :: K ∧ ItL β k K ∧ Rem ops ms todo (stripP pend) r ∧ RelDA ω β tm pend r tmps ∧ PenR L β ops pend r
  | k => ItL β k its ∧ TmR ω β tm tmps
theorem TdR.mono (hl : LeA β β') {k : List IT} {its : List Item} {tm : Tr V} {tmps : Array Value} (h : TdR ω L β k its tm tmps) : TdR ω L β' k its tm tmps := by
  unfold TdR at h ⊢
  split
  · obtain ⟨r, K, a, b, c, d, e⟩ := h; exact ⟨r, K, a, b.mono hl.le, c, d.mono hl.le, e.mono hl⟩
  · rename_i hn
    split at h
    · exact absurd rfl (hn _ _ _ _ _)
    · exact ⟨h.1.mono hl.le, h.2.mono hl.le⟩

def ChR (ω : List Value) (β : List (Option B3)) : List (V × Bool) → List PanicEntry → Prop
  | [], l => l = []
  | (v, q) :: vs, l => ∃ x r, l = { v := x, recovered := q } :: r ∧ Den ω β v x ∧ ChR ω β vs r
theorem ChR.mono (hl : Le β β') : ∀ {as : List (V × Bool)} {l : List PanicEntry}, ChR ω β as l → ChR ω β' as l
  | [], _, h => h
  | _ :: _, _, ⟨x, r, e, a, b⟩ => ⟨x, r, e, Den.mono hl _ a, ChR.mono hl b⟩
theorem ChR.noexit : ∀ {as : List (V × Bool)} {l : List PanicEntry}, ChR ω β as l → l.dropWhile (!·.goexit) = []
  | [], l, h => by have : l = [] := h; subst this; rfl
  | _ :: _, _, ⟨x, r, e, a, b⟩ => by subst e; simp [List.dropWhile, ChR.noexit b]
def RdR (β : List (Option B3)) : Option Nat → Option Nat → Prop
  | none, x => x = none
  | some l, x => ∃ b f n, bt β l = some (b, f, n) ∧ x = some b
theorem RdR.mono (hl : Le β β') {a x : Option Nat} (h : RdR β a x) : RdR β' a x := by
  cases a with
  | none => exact h
  | some l => obtain ⟨b, f, n, e, r⟩ := h; exact ⟨b, f, n, hl _ _ e, r⟩

structure FrB (ω : List Value) (β : List (Option B3)) (f : Fr) (F : Frame) : Prop where
  fn : F.fn = f.fn
  sz : F.tmps.size = f.nt
  df : DvL ω β f.df F.defers
  kd : F.kind = (bif f.defd then .deferred else .normal)
  rd : RdR β f.rnd F.roundOf
theorem FrB.mono (hl : Le β β') {f : Fr} {F : Frame} (h : FrB ω β f F) : FrB ω β' f F := ⟨h.fn, h.sz, h.df.mono hl, h.kd, h.rd.mono hl⟩

def MoR (ω : List Value) (L : Nat) (β : List (Option B3)) (f : Fr) (F : Frame) : Prop := match f.mode with
  | .run => F.mode = .run ∧ TdR ω L β f.todo F.todo f.tm F.tmps
  | .ret => F.mode = .returning ∧ TmR ω β f.tm F.tmps
  | .pan ch => (∃ l, F.mode = .panicking l ∧ ChR ω β ch l) ∧ TmR ω β f.tm F.tmps
theorem MoR.mono (hl : LeA β β') {f : Fr} {F : Frame} (h : MoR ω L β f F) : MoR ω L β' f F := by
  unfold MoR at h ⊢
  split <;> rename_i e <;> rw [e] at h
  · exact ⟨h.1, h.2.mono hl⟩
  · exact ⟨h.1, h.2.mono hl.le⟩
  · obtain ⟨⟨l, a, b⟩, c⟩ := h; exact ⟨⟨l, a, b.mono hl.le⟩, c.mono hl.le⟩
def FrR (ω : List Value) (L : Nat) (β : List (Option B3)) (f : Fr) (F : Frame) : Prop := FrB ω β f F ∧ MoR ω L β f F
theorem FrR.mono (hl : LeA β β') {f : Fr} {F : Frame} (h : FrR ω L β f F) : FrR ω L β' f F := ⟨h.1.mono hl.le, h.2.mono hl⟩

def CallR2 (ω : List Value) (L : Nat) (β : List (Option B3)) (f : Fr) (dst : Option Nat) (F : Frame) : Prop :=
  (∀ β' x v, LeA β β' → Den ω β' v x → dokA f dst = true → FrR ω L β' (putA f dst v) (F.finish x)) ∧ (∀ β' ch l, LeA β β' → ChR ω β' ch l → FrR ω L β' { f with mode := .pan ch } (F.raise l))
/-- the frames below: each is as it was when it called; the numbers kept since then are not its own -/
def CsR (ω : List Value) : Nat → List (Option B3) → List (Fr × Wt) → List Frame → Prop
  | _, _, [], Fs => Fs = []
  | L, β, (f, .val d) :: l, Fs => ∃ F G β0 L0, Fs = F :: G ∧ β0.length ≤ L ∧ LeA β0 β ∧ CallR2 ω L0 β0 f d F ∧ CsR ω L0 β0 l G
  | L, β, (f, .dfr) :: l, Fs => ∃ F G β0 L0, Fs = F :: G ∧ β0.length ≤ L ∧ LeA β0 β ∧ (f.mode ≠ .run ∧ FrR ω L0 β0 f F) ∧ CsR ω L0 β0 l G
theorem CsR.mono (hl : LeA β β') : ∀ {l : List (Fr × Wt)} {Fs : List Frame}, CsR ω L β l Fs → CsR ω L β' l Fs
  | [], _, h => h
  | (f, .val d) :: l, _, ⟨F, G, β0, L0, e, n, m, a, b⟩ => ⟨F, G, β0, L0, e, n, m.trans hl, a, b⟩
  | (f, .dfr) :: l, _, ⟨F, G, β0, L0, e, n, m, a, b⟩ => ⟨F, G, β0, L0, e, n, m.trans hl, a, b⟩
theorem LeA.setA {β0 β : List (Option B3)} {n : Nat} {x : Option B3} (h : LeA β0 β) (hn : β0.length ≤ n) (hlt : n < β.length) (h0 : bt β n = none) : LeA β0 (β.set n x) :=
  ⟨h.le.trans (Le.set x hlt h0), by simp [h.len], fun i hi e => by rw [bt_set hlt, if_neg (by omega)]; exact h.res i hi e⟩
theorem CsR.set {n : Nat} {x : Option B3} (hn : L ≤ n) (hlt : n < β.length) (h0 : bt β n = none) : ∀ {l : List (Fr × Wt)} {Fs : List Frame}, CsR ω L β l Fs → CsR ω L (β.set n x) l Fs
  | [], _, h => h
  | (f, .val d) :: l, _, ⟨F, G, β0, L0, e, m, k, a, b⟩ => ⟨F, G, β0, L0, e, m, k.setA (Nat.le_trans m hn) hlt h0, a, b⟩
  | (f, .dfr) :: l, _, ⟨F, G, β0, L0, e, m, k, a, b⟩ => ⟨F, G, β0, L0, e, m, k.setA (Nat.le_trans m hn) hlt h0, a, b⟩

theorem CsR.low : ∀ {l : List (Fr × Wt)} {Fs : List Frame}, CsR ω L β l Fs → CsR ω (min L β.length) β l Fs
  | [], _, h => h
  | (f, .val d) :: l, _, ⟨F, G, β0, L0, e, n, m, a, b⟩ => ⟨F, G, β0, L0, e, Nat.le_min.2 ⟨n, m.len⟩, m, a, b⟩
  | (f, .dfr) :: l, _, ⟨F, G, β0, L0, e, n, m, a, b⟩ => ⟨F, G, β0, L0, e, Nat.le_min.2 ⟨n, m.len⟩, m, a, b⟩

/-- the machine is as is known -/
def CR (B : World) (ω : List Value) (cs0 : List Frame) (c : Cg) (m : Machine) : Prop :=
  ∃ L β w F Fs, m = lone F (Fs ++ cs0) w ∧ WR B ω c.H c.nx β w ∧ FrR ω L β c.top F ∧ CsR ω L β c.cs Fs
def Goes (Pr : Program) (B : World) (ω : List Value) (f0 : Nat) (cs0 : List Frame) (m : Machine) : Rs → Prop
  | .next c => ∃ m', Steps Pr m m' ∧ CR B ω cs0 c m'
  | .fork l => ∃ c ∈ l, ∃ m', Steps Pr m m' ∧ CR B ω cs0 c m'
  | .done v => ∃ β w F x H nx, Steps Pr m (lone F cs0 w) ∧ F.fn = f0 ∧ F.leaving Pr w (.returned x) ∧ Den ω β v x ∧ WR B ω H nx β w
  | .fail _ => True
theorem Goes.head {cs0 : List Frame} {m m1 : Machine} {r : Rs} (h : Steps Pr m m1) (k : Goes Pr B ω f0 cs0 m1 r) : Goes Pr B ω f0 cs0 m r := by
  cases r with
  | next c => obtain ⟨m', a, b⟩ := k; exact ⟨m', h.trans a, b⟩
  | fork l => obtain ⟨c, hc, m', a, b⟩ := k; exact ⟨c, hc, m', h.trans a, b⟩
  | done v => obtain ⟨β, w, F, x, H, nx, a, b⟩ := k; exact ⟨β, w, F, x, H, nx, h.trans a, b⟩
  | fail n => trivial

theorem frame_at {F : Frame} (h : F.mode = .run) : F = F.atR { tmps := F.tmps, defers := F.defers } F.todo := by
  cases F; simp at h; subst h; rfl

/-! ### a function is entered -/
theorem setArgs_get : ∀ (l : List V) (tm : Tr V) (i t : Nat) (v : V), (setArgs tm i l).get t = some v → (i ≤ t ∧ l[t - i]? = some v) ∨ ((t < i ∨ i + l.length ≤ t) ∧ tm.get t = some v)
  | [], tm, i, t, v, h => .inr ⟨by simp; omega, h⟩
  | x :: l, tm, i, t, v, h => by
    simp only [setArgs] at h
    rcases setArgs_get l _ _ _ _ h with ⟨h1, h2⟩ | ⟨h1, h2⟩
    · left
      refine ⟨by omega, ?_⟩
      rw [show t - i = (t - (i + 1)) + 1 by omega]; simpa using h2
    · rcases Tr.get_put _ _ _ _ _ h2 with ⟨rfl, h3⟩ | ⟨hne, h3⟩
      · left; simp at h3; subst h3; simp
      · right; simp only [List.length_cons]; exact ⟨by omega, h3⟩
theorem enterA_ok {f : FuncId} {args : List V} {q : Bool} {t : Fr} (h : enterA Pr f args q = some t) : (∀ as w, (callFunc f as).run Pr w = .ok (.enter f as) w) ∧ t.defd = q ∧ t.mode = .run ∧
    ∀ {ω : List Value} {β : List (Option B3)} {vs : List Value}, DenL ω β args vs → FrR ω L β t (Frame.enter Pr f (List.toArray vs) (bif q then .deferred else .normal)) := by
  unfold enterA at h
  split at h
  · rename_i fn hf
    split at h
    · rename_i c hc
      obtain ⟨h1, h2⟩ := bcond h
      simp only [Bool.and_eq_true, Bool.not_eq_true'] at h1
      simp only [Option.some.injEq] at h2; subst h2
      have hle := Nat.le_of_ble_eq_true h1.1
      have hb : HB Pr f := hb_of hf (by rw [hc, h1.2]; rfl)
      refine ⟨hb.h, rfl, rfl, fun {ω β vs} d => ⟨⟨rfl, ?_, rfl, rfl, rfl⟩, rfl, ?_⟩⟩
      · simp [Frame.enter, hf, d.length]; omega
      · refine ⟨⟨.code c, [], by simp [Frame.enter, hf, hc], rfl, rfl⟩, ?_⟩
        intro t v e
        rcases setArgs_get _ _ _ _ _ e with ⟨_, h2⟩ | ⟨_, h2⟩
        · simp only [Nat.sub_zero] at h2
          obtain ⟨x, h3, h4⟩ := d.get h2
          have hlt := (List.getElem?_eq_some_iff.1 h3).1
          have : (Frame.enter Pr f (List.toArray vs) (bif q then .deferred else .normal)).tmps.getD t undef = x := by
            simp only [Frame.enter]
            rw [Array.getD_eq_getD_getElem?, Array.getElem?_append_left (by simpa using hlt)]
            simp [h3]
          rw [this]; exact h4
        · cases h2
    · cases h
  · cases h

/-! ### one operation that is run -/
theorem TmR.put {tm : Tr V} {tmps : Array Value} (h : TmR ω β tm tmps) {d : Nat} (hd : d < tmps.size) {v : V} {x : Value} (dv : Den ω β v x) : TmR ω β (tm.put d (some v)) (tmps.setIfInBounds d x) := by
  intro t u e
  rcases Tr.get_put _ _ _ _ _ e with ⟨rfl, h2⟩ | ⟨hne, h2⟩
  · simp at h2; subst h2
    rw [Array.getD_eq_getD_getElem?, Array.getElem?_setIfInBounds]
    simp [hd]; exact dv
  · rw [put_other _ _ _ _ (Ne.symm hne)]; exact h t u h2
theorem opA_ok {tm : Tr V} {a : Act} (h : TmR ω β tm a.tmps) : ∀ x u, opA tm x = some u → Den ω β u (a.eval x) := by
  intro x u e
  cases x with
  | tmp t => exact h t u e
  | const c => exact absV_ok 4 e
  | global g => cases e
  | func f => simp only [opA, Option.some.injEq] at e; subst e; exact ⟨[], [], rfl, DenL.nil_iff.2 rfl, DenL.nil_iff.2 rfl⟩

theorem FrB.put {fr : Fr} {b : Frame} {a : Act} {its its' : List Item} (h : FrB ω β fr (b.atR a its)) (dst : Option Nat) (v : V) (x : Value) : FrB ω β (putA fr dst v) (b.atR (a.put dst x) its') := by
  cases dst with
  | none => exact ⟨h.fn, h.sz, h.df, h.kd, h.rd⟩
  | some d => exact ⟨h.fn, by show (a.tmps.setIfInBounds d x).size = _; rw [Array.size_setIfInBounds]; exact h.sz, h.df, h.kd, h.rd⟩
theorem putA_todo (fr : Fr) (dst : Option Nat) (v : V) : (putA fr dst v).todo = fr.todo := by cases dst <;> rfl
theorem putA_mode (fr : Fr) (dst : Option Nat) (v : V) : (putA fr dst v).mode = fr.mode := by cases dst <;> rfl

/-- what the frame is behind an operation, whatever it yields -/
def Behind (ω : List Value) (L : Nat) (β : List (Option B3)) (fr : Fr) (o : Oper) (ops : Array Oper) (r : List Nat) (K : List Item) (a : Act) : Prop :=
  ∀ β' x v, LeA β β' → Den ω β' v x → dokA fr o.dst = true → TdR ω L β' fr.todo (.inRegion ops r :: K) (putA fr o.dst v).tm (a.put o.dst x).tmps

theorem fin_ok {fr : Fr} {o : Oper} {ops : Array Oper} {i : Nat} {r : List Nat} {K : List Item} {b : Frame} {a : Act} (hb : FrB ω β fr (b.atR a (.inRegion ops (i :: r) :: K))) (hm : fr.mode = .run) (hbeh : Behind ω L β fr o ops r K a) {x : Value} {v : V} (hl : LeA β β') (dv : Den ω β' v x) (hd : dokA fr o.dst = true) :
    FrR ω L β' (putA fr o.dst v) (b.atR (a.put o.dst x) (.inRegion ops r :: K)) := by
  refine ⟨(hb.mono hl.le).put _ _ _, ?_⟩
  unfold MoR
  rw [putA_mode, hm]
  exact ⟨rfl, by rw [putA_todo]; exact hbeh β' x v hl dv hd⟩
theorem call_ok {fr : Fr} {o : Oper} {ops : Array Oper} {i : Nat} {r : List Nat} {K : List Item} {b : Frame} {a : Act} (hb : FrB ω β fr (b.atR a (.inRegion ops (i :: r) :: K))) (hm : fr.mode = .run) (htm : TmR ω β fr.tm a.tmps) (hbeh : Behind ω L β fr o ops r K a) (ho : ops[i]? = some o) :
    CallR2 ω L β fr o.dst (b.atR a (.inRegion ops (i :: r) :: K)) := by
  refine ⟨fun β' x v hl dv hd => ?_, fun β' ch l hl hc => ?_⟩
  · rw [Frame.finish_atR, ho]; exact fin_ok hb hm hbeh hl dv hd
  · rw [Frame.raise_atR]
    have := hb.mono hl.le
    exact ⟨⟨this.fn, this.sz, this.df, this.kd, this.rd⟩, ⟨l, rfl, hc⟩, htm.mono hl.le⟩
theorem step_val {b : Frame} {a : Act} {ops : Array Oper} {i : Nat} {r : List Nat} {K : List Item} {cs : List Frame} {o : Oper} {x : Value} {w' : World} (ho : ops[i]? = some o) (hwant : Region.wanted o (yielded ops a.tmps) = true) (hnd : ∀ c, o.op ≠ .defer c)
    (h : (ex a.eval o.op o.type).run Pr w = .ok (.value x) w' ∨ ((ex a.eval o.op o.type).run Pr w = .ok .skip w' ∧ x = undef)) : step Pr (lone (b.atR a (.inRegion ops (i :: r) :: K)) cs w) = .next (lone (b.atR (a.put o.dst x) (.inRegion ops r :: K)) cs w') := by
  refine step_lone_go ?_
  have hfin : (b.atR a (.inRegion ops (i :: r) :: K)).finish x = b.atR (a.put o.dst x) (.inRegion ops r :: K) := by rw [Frame.finish_atR, ho]; rfl
  rw [stepGR_op ho hwant, Oper.semAt_eq _ _ _ hnd, ex_eq, ← hfin]
  rcases h with h | ⟨h, rfl⟩ <;> simp [stepG.apply, h]
theorem evP_nd {ev : Operand → Option V} {o : Op} {v : V} (h : evP Pr ev H o = some v) : ∀ c, o ≠ .defer c := by rintro c rfl; rw [evP_eq] at h; cases h
theorem evE_nd {ev : Operand → Option V} {o : Op} {v : List (V × HV × Nat)} (h : evE Pr ev H nx o = some v) : ∀ c, o ≠ .defer c := by rintro c rfl; rw [evE_eq] at h; cases h

/-! ### functions of sync/atomic, methods -/
noncomputable def AT.fn : AT → Array Value → Sem Value
  | .store => Extern.Atomic.storeT
  | .load => Extern.Atomic.loadT (.int .i64)
  | .cas => Extern.Atomic.casT (.int .i64)
theorem at_n1 (t : AT) : Extern.allNextRows.lookup t.name = none := by cases t <;> kernel_rfl
theorem at_n2 : Extern.allNextRows.lookup "" = none := by kernel_rfl
theorem at_g1 (t : AT) : Extern.allGenericRows.lookup t.name = none := by cases t <;> kernel_rfl
theorem at_g2 (t : AT) : Extern.allTypedRows.lookup t.name = none := by cases t <;> kernel_rfl
theorem at_g3 (t : AT) : Extern.allRows.lookup t.name = some t.fn := by cases t <;> kernel_rfl
theorem at_find {fn : Func} {t : AT} (h1 : fn.name = t.name) (h2 : fn.origin = "") : Extern.findNext fn = none ∧ Extern.find fn = some t.fn := by
  constructor
  · show ((Extern.allNextRows.lookup fn.name).map (· fn.params fn.resultTypes) <|> (Extern.allNextRows.lookup fn.origin).map (· fn.params fn.resultTypes)) = none
    rw [h1, h2, at_n1, at_n2]; rfl
  · show (((Extern.allGenericRows.lookup fn.name).map (· fn.targs fn.params fn.resultTypes) <|> (Extern.allTypedRows.lookup fn.name).map (· fn.params fn.resultTypes) <|> Extern.allRows.lookup fn.name) <|> _) = _
    rw [h1, at_g1, at_g2, at_g3]; rfl
theorem at_nm (t : AT) : (t.name == "runtime.NumGoroutine") = false := by cases t <;> rfl
theorem atK_ok {g : FuncId} {t : AT} (h : atK Pr g = some t) : ∃ fn, Pr.funcs[g]? = some fn ∧ (fn.name == "runtime.NumGoroutine") = false ∧ fn.body.isNone = true ∧ Extern.findNext fn = none ∧ Extern.find fn = some t.fn := by
  unfold atK at h
  split at h
  · rename_i fn hf
    obtain ⟨h1, h2⟩ := bcond h
    simp only [Bool.and_eq_true, beq_iff_eq] at h1
    have key : fn.name = t.name := by
      cases e1 : fn.name == AT.store.name with
      | true => rw [e1, cond_true] at h2; cases h2; simpa using e1
      | false =>
        rw [e1, cond_false] at h2
        cases e2 : fn.name == AT.load.name with
        | true => rw [e2, cond_true] at h2; cases h2; simpa using e2
        | false =>
          rw [e2, cond_false] at h2
          obtain ⟨e3, h3⟩ := bcond h2
          cases h3; simpa using e3
    obtain ⟨a, b⟩ := at_find key h1.2
    refine ⟨fn, hf, ?_, h1.1, a, b⟩
    rw [key]; exact at_nm t
  · cases h
theorem cell_at (hw : WR B ω H nx β w) {i o : Nat} {T : TypeId} {cs : List V} {u : V} {b f n : Nat} (hi : H.get i = some (.cells T cs)) (hb : bt β i = some (b, f, n)) (hu : cs[o]? = some u) : ∃ x, w.cell? ⟨b, f + o, none⟩ = some x ∧ Den ω β u x ∧ w.frozen? ⟨b, f + o, none⟩ = false := by
  obtain ⟨all, fr, e1, e2, e3, e4, e5⟩ := hw.cells hi hb
  obtain ⟨x, h1, h2⟩ := get_at e5 hu
  refine ⟨x, ?_, h2, ?_⟩
  · simp [World.cell?, e1, h1]
  · have := (List.getElem?_eq_some_iff.1 h1).1
    exact (st_of e1).unfrozenF (e2 ▸ e4) this
theorem cell_put (Pr : Program) (hw : WR B ω H nx β w) {i o : Nat} {T : TypeId} {cs cs' : List V} {v : V} {y : Value} {b f n : Nat} (hi : H.get i = some (.cells T cs)) (hb : bt β i = some (b, f, n)) (hst : stV cs o [v] = some cs') (h1 : v.one = true) (dy : Den ω β v y) :
    ∃ x, w.cell? ⟨b, f + o, none⟩ = some x ∧ w.frozen? ⟨b, f + o, none⟩ = false ∧ WR B ω (H.put i (some (.cells T cs'))) nx β (w.setCell ⟨b, f + o, none⟩ y) := by
  have hlt : o < cs.length := by
    obtain ⟨h2, _⟩ := bcond hst
    have := Nat.le_of_ble_eq_true h2; simp at this; omega
  obtain ⟨x, hx, _, hz⟩ := cell_at hw hi hb (List.getElem?_eq_getElem hlt)
  obtain ⟨w', hr, hw'⟩ := cells_ok (Pr := Pr) (ys := [y]) hw hi hb hst (by simp [allOne, h1]) (DenL.cons_iff.2 ⟨y, [], rfl, dy, DenL.nil_iff.2 rfl⟩)
  have hy := dy.one h1
  simp only [storeCells, Sem.run_bind, Addr.add_none, Nat.add_zero, run_store Pr w _ y _ hy, hx, hz, Bool.false_eq_true, if_false, Result.andThen_ok, Sem.run_pure, Result.ok.injEq, true_and] at hr
  exact ⟨x, hx, hz, by rw [hr]; exact hw'⟩
theorem atA_ok (hw : WR B ω H nx β w) {g : FuncId} {t : AT} (hg : atK Pr g = some t) {args : List V} {v : V} {H' : HV} (h : atA H t args = some (v, H')) {xs : List Value} (dx : DenL ω β args xs) :
    ∃ x w', (callFunc g (List.toArray xs)).run Pr w = .ok (.value x) w' ∧ Den ω β v x ∧ WR B ω H' nx β w' := by
  obtain ⟨fn, hf, hname, hbd, hnx, hfd⟩ := atK_ok hg
  unfold atA at h
  split at h
  · rename_i i o k y
    obtain ⟨x1, r1, rfl, d1, d2⟩ := DenL.cons_iff.1 dx
    obtain ⟨x2, r2, rfl, d2, d3⟩ := DenL.cons_iff.1 d2
    rw [DenL.nil_iff.1 d3]
    simp only [Den] at d1; obtain ⟨b, f, n, hb, rfl⟩ := d1
    split at h
    · rename_i T cs hi
      simp only [Option.map_eq_some_iff, Prod.mk.injEq] at h
      obtain ⟨cs', hst, rfl, rfl⟩ := h
      obtain ⟨u, hc, hz, hw'⟩ := cell_put Pr hw hi hb hst rfl d2
      simp only [Den] at d2; subst d2
      exact ⟨_, _, run_call_store hf hname hbd hnx hfd hc hz, ⟨[], rfl, DenL.nil_iff.2 rfl⟩, hw'⟩
    · cases h
  · rename_i i o
    obtain ⟨x1, r1, rfl, d1, d2⟩ := DenL.cons_iff.1 dx
    rw [DenL.nil_iff.1 d2]
    simp only [Den] at d1; obtain ⟨b, f, n, hb, rfl⟩ := d1
    split at h
    · rename_i T cs hi
      split at h
      · rename_i m hm
        simp only [Option.some.injEq, Prod.mk.injEq] at h
        obtain ⟨rfl, rfl⟩ := h
        rw [nthL_eq] at hm
        obtain ⟨x, hc, d, _⟩ := cell_at hw hi hb hm
        have d' := d
        simp only [Den] at d; subst d
        exact ⟨_, _, run_call_load hf hname hbd hnx .i64 hfd hc, d', hw⟩
      · cases h
    · cases h
  · rename_i i o x0 y
    obtain ⟨x1, r1, rfl, d1, e2⟩ := DenL.cons_iff.1 dx
    obtain ⟨x2, r2, rfl, d2, e3⟩ := DenL.cons_iff.1 e2
    obtain ⟨x3, r3, rfl, d3, e4⟩ := DenL.cons_iff.1 e3
    rw [DenL.nil_iff.1 e4]
    simp only [Den] at d1; obtain ⟨b, f, n, hb, rfl⟩ := d1
    have d3' := d3
    simp only [Den] at d2 d3; subst d2; subst d3
    split at h
    · rename_i T cs hi
      split at h
      · rename_i m hm
        rw [nthL_eq] at hm
        obtain ⟨x, hc, d, hz⟩ := cell_at hw hi hb hm
        simp only [Den] at d; subst d
        cases e : m == x0 with
        | true =>
          rw [e, cond_true] at h
          simp only [Option.map_eq_some_iff, Prod.mk.injEq] at h
          obtain ⟨cs', hst, rfl, rfl⟩ := h
          obtain ⟨u, _, _, hw'⟩ := cell_put Pr hw hi hb hst rfl d3'
          have e : m = x0 := by simpa using e
          subst e
          exact ⟨_, _, run_call_cas_hit hf hname hbd hnx .i64 hfd hc hz, by simp [Den], hw'⟩
        | false =>
          rw [e, cond_false] at h
          simp only [Option.some.injEq, Prod.mk.injEq] at h
          obtain ⟨rfl, rfl⟩ := h
          have e : ¬ m = x0 := by simpa using e
          exact ⟨_, _, run_call_cas_miss hf hname hbd hnx .i64 hfd hc hz e, by simp [Den], hw⟩
      · cases h
    · cases h
  · cases h
theorem methodA_ok {t : TypeId} {name : String} {g : FuncId} (h : methodA Pr t name = some g) (k : Nat) (x : Value) (w : World) : (method (k + 1) t x name).run Pr w = .ok (g, x) w := by
  unfold methodA at h
  split at h
  · rename_i i d hi hd
    split at h
    · rename_i m hm
      split at h
      · rename_i f e hp hfn
        cases h
        simp only [method, typeInfo, Sem.run_bind, run_program, Result.andThen_ok, hi, Sem.run_pure, hm, hp, follow, hfn, receiverAt, und hd, Place.get]
      · cases h
    · cases h
  · cases h

section oper
variable {cs0 Fs : List Frame} {c : Cg} {b : Frame} {a : Act} {ops : Array Oper} {i : Nat} {r : List Nat} {K : List Item} {o : Oper} {fr : Fr}

theorem next_ok (hw' : WR B ω H nx β' w) (hcs : CsR ω L β c.cs Fs) (hl : LeA β β') {F : Frame} {t : Fr} (hf : FrR ω L β' t F) : CR B ω cs0 { c with top := t, H := H, nx := nx } (lone F (Fs ++ cs0) w) :=
  ⟨L, β', w, F, Fs, rfl, hw', hf, hcs.mono hl⟩

theorem oper_call (hw : WR B ω c.H c.nx β w) (hcs : CsR ω L β c.cs Fs) (hb : FrB ω β fr (b.atR a (.inRegion ops (i :: r) :: K))) (hm : fr.mode = .run) (htm : TmR ω β fr.tm a.tmps) (hbeh : Behind ω L β fr o ops r K a) (ho : ops[i]? = some o) (hwant : Region.wanted o (yielded ops a.tmps) = true)
    {fo : Operand} {args : Array Operand} {ats : Array TypeId} (hop : o.op = .call { callee := .value fo, args := args, argTypes := ats }) {fv : V} {vs : List V} (hd : dokA fr o.dst = true) (hf : opA fr.tm fo = some fv) (ha : optL (opA fr.tm) args.toList = some vs) :
    Goes Pr B ω f0 cs0 (lone (b.atR a (.inRegion ops (i :: r) :: K)) (Fs ++ cs0) w) (callA Pr c fr o.dst fv vs) := by
  have hnd : ∀ c, o.op ≠ .defer c := by rw [hop]; intro c hc; cases hc
  have dfv := opA_ok htm fo fv hf
  have dvs := optL_ok (ρ := a.eval) ha (fun x hx u e => opA_ok htm x u e)
  have harr : args.map a.eval = List.toArray (args.toList.map a.eval) := by apply Array.toList_inj.1; simp
  have hcall := call_ok hb hm htm hbeh ho
  cases fv <;> simp only [callA] <;> try trivial
  · rename_i f fa fc
    cases f <;> try trivial
    rename_i g
    simp only [Den] at dfv
    obtain ⟨va, vc, hfe, da, dc⟩ := dfv
    simp only []
    split
    · rename_i t ht
      obtain ⟨h1, h2, h3, h4⟩ := enterA_ok ht
      have hinv : (ex a.eval o.op o.type).run Pr w = .ok (.enter g (List.toArray (va ++ args.toList.map a.eval ++ vc))) w := by
        have e : (List.toArray va ++ List.toArray (args.toList.map a.eval) ++ List.toArray vc) = List.toArray (va ++ args.toList.map a.eval ++ vc) := by simp
        rw [hop]; simp only [ex, execOp, resolve, hfe, harr, Deferred.ofValue, Sem.run_bind, Sem.run_pure, Result.andThen_ok, invoke, e, h1]
      have hst : step Pr (lone (b.atR a (.inRegion ops (i :: r) :: K)) (Fs ++ cs0) w) = .next (lone (Frame.enter Pr g (List.toArray (va ++ args.toList.map a.eval ++ vc)) .normal) (b.atR a (.inRegion ops (i :: r) :: K) :: (Fs ++ cs0)) w) :=
        step_lone_go (by rw [stepGR_op ho hwant, Oper.semAt_eq _ _ _ hnd, ex_eq]; simp [stepG.apply, hinv, Frame.atR])
      exact ⟨_, .one hst, β.length, β, w, _, b.atR a (.inRegion ops (i :: r) :: K) :: Fs, rfl, hw, h4 ((da.append dvs).append dc), _, Fs, β, L, rfl, Nat.le_refl _, LeA.refl _, hcall, hcs⟩
    · split
      · rename_i t ht
        split
        · rename_i v H hv
          obtain ⟨x, w', h1, h2, h3⟩ := atA_ok hw ht hv ((da.append dvs).append dc)
          have hinv : (ex a.eval o.op o.type).run Pr w = .ok (.value x) w' := by
            have e : (List.toArray va ++ List.toArray (args.toList.map a.eval) ++ List.toArray vc) = List.toArray (va ++ args.toList.map a.eval ++ vc) := by simp
            rw [hop]; simp only [ex, execOp, resolve, hfe, harr, Deferred.ofValue, Sem.run_bind, Sem.run_pure, Result.andThen_ok, invoke, e, h1]
          exact ⟨_, .one (step_val ho hwant hnd (.inl hinv)), next_ok h3 hcs (LeA.refl _) (fin_ok hb hm hbeh (LeA.refl _) h2 hd)⟩
        · trivial
      · trivial
  · rename_i l
    simp only [Den] at dfv
    obtain ⟨lb, lf, ln, hlb, hfe⟩ := dfv
    split
    · rename_i st pend fn nt tm params asg body df hl
      cases hc : Nat.beq params.length vs.length && params.all (Nat.blt · nt) with
      | false => trivial
      | true =>
        simp only [cond_true]
        simp only [Bool.and_eq_true] at hc
        have hlen := Nat.eq_of_beq_eq_true hc.1
        obtain ⟨ob, hob, tmps, db, df', dn, hdf, rfl, hsz, htl⟩ := hw.at hl hlb
        have hobj : (getObj lb).run Pr w = .ok (.loop { state := st, pending := pend, fn := fn, tmps := tmps, params := params.toArray, assign := asg, body := body, defers := db }) w := run_getObj' hob (by simp)
        obtain ⟨tmps2, htmps2⟩ : ∃ t2, t2 = (params.zip (args.toList.map a.eval)).foldl (fun (tmps : Array Value) p => tmps.setIfInBounds p.1 p.2) tmps := ⟨_, rfl⟩
        have hinv : (ex a.eval o.op o.type).run Pr w = .ok (.round lb fn tmps2 asg body) w := by
          rw [hop]; simp only [ex, execOp, resolve, hfe, harr, Deferred.ofValue, Sem.run_bind, Sem.run_pure, Result.andThen_ok, invoke, Instr.yield, Instr.getLoop, hobj]
          have : (#[] ++ List.toArray (args.toList.map a.eval)).size = params.toArray.size := by simp [hlen, ← dvs.length]
          rw [if_neg (by rw [this]; simp)]
          simp only [Sem.run_pure]
          congr 2
          rw [htmps2]
          rw [← Array.foldl_toList]; simp
        have hst : step Pr (lone (b.atR a (.inRegion ops (i :: r) :: K)) (Fs ++ cs0) w) = .next (lone (Frame.round lb fn tmps2 asg body .normal) (b.atR a (.inRegion ops (i :: r) :: K) :: (Fs ++ cs0)) w) :=
          step_lone_go (by rw [stepGR_op ho hwant, Oper.semAt_eq _ _ _ hnd, ex_eq]; simp [stepG.apply, hinv, Frame.atR])
        have key : ∀ (ps : List Nat) (us : List V) (xs : List Value) (tm : Tr V) (tmps : Array Value), TmR ω β tm tmps → DenL ω β us xs → (ps.all (Nat.blt · tmps.size)) = true →
            TmR ω β ((ps.zip us).foldl (fun t p => t.put p.1 (some p.2)) tm) ((ps.zip xs).foldl (fun (tmps : Array Value) p => tmps.setIfInBounds p.1 p.2) tmps) ∧ ((ps.zip xs).foldl (fun (tmps : Array Value) p => tmps.setIfInBounds p.1 p.2) tmps).size = tmps.size := by
          intro ps
          induction ps with
          | nil => intro us xs tm tmps h _ _; exact ⟨h, rfl⟩
          | cons p ps ih =>
            intro us xs tm tmps h d hp
            cases us with
            | nil => rw [DenL.nil_iff.1 d]; exact ⟨h, rfl⟩
            | cons u us =>
              obtain ⟨y, ys, rfl, d1, d2⟩ := DenL.cons_iff.1 d
              simp only [List.all_cons, Bool.and_eq_true] at hp
              have hpl : p < tmps.size := by simpa [Nat.blt_eq] using hp.1
              obtain ⟨k1, k2⟩ := ih us ys (tm.put p (some u)) (tmps.setIfInBounds p y) (h.put hpl d1) d2 (by simpa using hp.2)
              exact ⟨k1, by simpa using k2⟩
        obtain ⟨k1, k2⟩ := key params vs _ tm tmps htl dvs (by rw [hsz]; exact hc.2)
        refine ⟨_, .one hst, β.length, β, w, _, b.atR a (.inRegion ops (i :: r) :: K) :: Fs, rfl, hw, ⟨⟨rfl, ?_, rfl, rfl, lb, lf, ln, hlb, rfl⟩, rfl, ?_⟩, _, Fs, β, L, rfl, Nat.le_refl _, LeA.refl _, hcall, hcs⟩
        · show tmps2.size = nt
          rw [htmps2, k2, hsz]
        · refine ⟨⟨_, _, rfl, rfl, _, _, rfl, rfl, _, _, rfl, rfl, rfl⟩, ?_⟩
          show TmR ω β _ tmps2
          rw [htmps2]; exact k1
    · trivial
theorem oper_ok (hw : WR B ω c.H c.nx β w) (hcs : CsR ω L β c.cs Fs) (hdf : c.top.defd = fr.defd) (hrn : c.top.rnd = fr.rnd) (hb : FrB ω β fr (b.atR a (.inRegion ops (i :: r) :: K))) (hm : fr.mode = .run) (htm : TmR ω β fr.tm a.tmps) (hbeh : Behind ω L β fr o ops r K a) (ho : ops[i]? = some o) (hwant : Region.wanted o (yielded ops a.tmps) = true) :
    Goes Pr B ω f0 cs0 (lone (b.atR a (.inRegion ops (i :: r) :: K)) (Fs ++ cs0) w) (operA Pr c fr.tm fr o) := by
  unfold operA
  cases hd : dokA fr o.dst with
  | false => trivial
  | true =>
    simp only [Bool.not_true, cond_false]
    have hev : EvR ω β (opA fr.tm) a.eval o.op.operands.toList := fun x _ u e => opA_ok htm x u e
    split
    · rename_i v hv
      obtain ⟨x, h1, h2⟩ := evP_ok (ty := o.type) hw hv hev
      exact ⟨_, .one (step_val ho hwant (evP_nd hv) (.inl h1)), next_ok hw hcs (LeA.refl _) (fin_ok hb hm hbeh (LeA.refl _) h2 hd)⟩
    · split
      · rename_i v H nx hv
        obtain ⟨p, hp, x, w', β', hl, h1, h2, h3⟩ := evE_ok (ty := o.type) hw hv hev
        obtain rfl := List.mem_singleton.1 hp
        exact ⟨_, .one (step_val ho hwant (evE_nd hv) h1), next_ok h3 hcs hl (fin_ok hb hm hbeh hl h2 hd)⟩
      · rename_i l hl0 hv
        obtain ⟨p, hp, x, w', β', hl, h1, h2, h3⟩ := evE_ok (ty := o.type) hw hv hev
        exact ⟨_, List.mem_map.2 ⟨p, hp, rfl⟩, _, .one (step_val ho hwant (evE_nd hv) h1), next_ok h3 hcs hl (fin_ok hb hm hbeh hl h2 hd)⟩
      · unfold otherA
        split
        · rename_i fo args ats hop
          split
          · rename_i fv vs hf ha
            exact oper_call hw hcs hb hm htm hbeh ho hwant hop hd hf ha
          · trivial
        · rename_i rc name args ats hop
          split
          · rename_i t v vs hf ha
            split
            · rename_i g hg
              split
              · rename_i t2 ht
                have hnd : ∀ c, o.op ≠ .defer c := by rw [hop]; intro c hc; cases hc
                have dfv := opA_ok htm rc _ hf
                simp only [Den] at dfv
                obtain ⟨y, hfe, dy⟩ := dfv
                have dvs := optL_ok (ρ := a.eval) ha (fun x hx u e => opA_ok htm x u e)
                have harr : args.map a.eval = List.toArray (args.toList.map a.eval) := by apply Array.toList_inj.1; simp
                have hcall := call_ok hb hm htm hbeh ho
                obtain ⟨h1, h2, h3, h4⟩ := enterA_ok ht
                have hinv : (ex a.eval o.op o.type).run Pr w = .ok (.enter g (List.toArray (y :: args.toList.map a.eval))) w := by
                  have e : (#[a.eval rc] ++ List.toArray (args.toList.map a.eval) : Array Value) = List.toArray (a.eval rc :: args.toList.map a.eval) := by simp
                  have e2 : (#[y] ++ List.toArray (args.toList.map a.eval) : Array Value) = List.toArray (y :: args.toList.map a.eval) := by simp
                  have e3 : (List.toArray (a.eval rc :: args.toList.map a.eval)).extract 1 (List.toArray (a.eval rc :: args.toList.map a.eval)).size = List.toArray (args.toList.map a.eval) := by
                    have hl : (args.toList.map a.eval).length = args.size := by simp
                    simp only [List.extract_toArray, List.size_toArray, List.length_cons, List.extract_eq_take_drop, List.drop_succ_cons, List.drop_zero, Nat.add_sub_cancel, List.take_length]
                  have e4 : (List.toArray (a.eval rc :: args.toList.map a.eval))[0]? = some (.iface t y) := by simp [hfe]
                  rw [hop]
                  simp only [ex, execOp, resolve, harr, e, Sem.run_bind, Sem.run_pure, Result.andThen_ok, invoke, e4, e3, callMethod, run_program, methodA_ok hg, Made.depth, e2, h1]
                have hst : step Pr (lone (b.atR a (.inRegion ops (i :: r) :: K)) (Fs ++ cs0) w) = .next (lone (Frame.enter Pr g (List.toArray (y :: args.toList.map a.eval)) .normal) (b.atR a (.inRegion ops (i :: r) :: K) :: (Fs ++ cs0)) w) :=
                  step_lone_go (by rw [stepGR_op ho hwant, Oper.semAt_eq _ _ _ hnd, ex_eq]; simp [stepG.apply, hinv, Frame.atR])
                exact ⟨_, .one hst, β.length, β, w, _, b.atR a (.inRegion ops (i :: r) :: K) :: Fs, rfl, hw, h4 (DenL.cons_iff.2 ⟨y, _, rfl, dy, dvs⟩), _, Fs, β, L, rfl, Nat.le_refl _, LeA.refl _, hcall, hcs⟩
              · trivial
            · trivial
          · trivial
        · rename_i args ats hop
          split
          · rename_i v cs hrec
            have hnd : ∀ c, o.op ≠ .defer c := by rw [hop]; intro c hc; cases hc
            have hinv : (ex a.eval o.op o.type).run Pr w = .ok .recover w := by rw [hop]; simp [ex, execOp, resolve, invoke, builtin]
            unfold recA at hrec
            obtain ⟨g, hrec⟩ := bcond hrec
            simp only [Bool.and_eq_true, Option.isNone_iff_eq_none] at g
            have hk : b.kind = .deferred := by have := hb.kd; rw [← hdf, g.1] at this; exact this
            have hro : b.roundOf = none := by have := hb.rd; rw [← hrn, g.2] at this; exact this
            have hfin : ∀ x, (b.atR a (.inRegion ops (i :: r) :: K)).finish x = b.atR (a.put o.dst x) (.inRegion ops r :: K) := by intro x; rw [Frame.finish_atR, ho]; rfl
            have hnil : ∀ (Gs : List Frame), tryRecover (b.atR a (.inRegion ops (i :: r) :: K)) Gs = none → step Pr (lone (b.atR a (.inRegion ops (i :: r) :: K)) Gs w) = .next (lone (b.atR (a.put o.dst .nilIface) (.inRegion ops r :: K)) Gs w) := by
              intro Gs h
              refine step_lone_go ?_
              rw [stepGR_op ho hwant, Oper.semAt_eq _ _ _ hnd, ex_eq, ← hfin]
              have hr2 : (b.atR a (.inRegion ops (i :: r) :: K)).roundOf = none := hro
              simp only [stepG.apply, Sem.runT_eq, hinv, GStep.bare_after, hr2, h, if_true]
              rfl
            split at hrec
            · rename_i f rest hcc
              rw [hcc] at hcs
              obtain ⟨F, G, β0, L0, rfl, hn0, hl0, ⟨hfm, hfr⟩, hcs'⟩ := hcs
              split at hrec
              · rename_i u older hmode
                simp only [Option.some.injEq, Prod.mk.injEq] at hrec
                obtain ⟨rfl, rfl⟩ := hrec
                have hmo := hfr.2
                unfold MoR at hmo; rw [hmode] at hmo
                obtain ⟨⟨l, hl, x, s, rfl, dx, hs⟩, htm'⟩ := hmo
                have hrecv : tryRecover (b.atR a (.inRegion ops (i :: r) :: K)) (F :: G ++ cs0) = some (x, { F with mode := .panicking ({ v := x, recovered := true } :: s) } :: (G ++ cs0)) := by
                  have hk2 : (b.atR a (.inRegion ops (i :: r) :: K)).kind = .deferred := hk
                  simp only [tryRecover, List.cons_append, hk2, hl]
                have hst : step Pr (lone (b.atR a (.inRegion ops (i :: r) :: K)) (F :: G ++ cs0) w) = .next (lone (b.atR (a.put o.dst x) (.inRegion ops r :: K)) ({ F with mode := .panicking ({ v := x, recovered := true } :: s) } :: (G ++ cs0)) w) := by
                  refine step_lone_go ?_
                  rw [stepGR_op ho hwant, Oper.semAt_eq _ _ _ hnd, ex_eq, ← hfin]
                  have hr2 : (b.atR a (.inRegion ops (i :: r) :: K)).roundOf = none := hro
                  simp only [stepG.apply, Sem.runT_eq, hinv, GStep.bare_after, hr2, hrecv]
                  rfl
                refine ⟨_, .one hst, L, β, w, _, { F with mode := .panicking ({ v := x, recovered := true } :: s) } :: G, rfl, hw, fin_ok hb hm hbeh (LeA.refl _) (Den.mono hl0.le _ dx) hd, _, G, β0, L0, rfl, hn0, hl0, ⟨by simp, ⟨⟨hfr.1.fn, hfr.1.sz, hfr.1.df, hfr.1.kd, hfr.1.rd⟩, ⟨_, rfl, x, s, rfl, dx, hs⟩, htm'⟩⟩, hcs'⟩
              · rename_i ch hmode hno
                simp only [Option.some.injEq, Prod.mk.injEq] at hrec
                obtain ⟨rfl, rfl⟩ := hrec
                have hmo := hfr.2
                unfold MoR at hmo; rw [hno] at hmo
                obtain ⟨⟨l, hl, hch⟩, htm'⟩ := hmo
                have hrecv : tryRecover (b.atR a (.inRegion ops (i :: r) :: K)) (F :: G ++ cs0) = none := by
                  have hk2 : (b.atR a (.inRegion ops (i :: r) :: K)).kind = .deferred := hk
                  simp only [tryRecover, List.cons_append, hk2, hl]
                  cases ch with
                  | nil => have : l = [] := hch; subst this; rfl
                  | cons p ch =>
                    obtain ⟨u, q⟩ := p
                    obtain ⟨x, s, rfl, dx, hs⟩ := hch
                    cases q with
                    | true => rfl
                    | false => exact absurd rfl (hmode _ _)
                refine ⟨_, .one (hnil _ hrecv), L, β, w, _, F :: G, rfl, hw, fin_ok hb hm hbeh (LeA.refl _) (by simp [Den]) hd, ?_⟩
                show CsR ω L β c.cs (F :: G)
                rw [hcc]; exact ⟨F, G, β0, L0, rfl, hn0, hl0, ⟨hfm, hfr⟩, hcs'⟩
              · rename_i hmode
                simp only [Option.some.injEq, Prod.mk.injEq] at hrec
                obtain ⟨rfl, rfl⟩ := hrec
                have hmo := hfr.2
                unfold MoR at hmo; rw [hmode] at hmo
                have hrecv : tryRecover (b.atR a (.inRegion ops (i :: r) :: K)) (F :: G ++ cs0) = none := by
                  have hk2 : (b.atR a (.inRegion ops (i :: r) :: K)).kind = .deferred := hk
                  simp only [tryRecover, List.cons_append, hk2, hmo.1]
                refine ⟨_, .one (hnil _ hrecv), L, β, w, _, F :: G, rfl, hw, fin_ok hb hm hbeh (LeA.refl _) (by simp [Den]) hd, ?_⟩
                show CsR ω L β c.cs (F :: G)
                rw [hcc]; exact ⟨F, G, β0, L0, rfl, hn0, hl0, ⟨hfm, hfr⟩, hcs'⟩
              · cases hrec
            · cases hrec
          · trivial
        · rename_i fo args ats hop
          split
          · rename_i g fa cp vs hf ha hrnd
            have hro : b.roundOf = none := by have := hb.rd; rw [hrnd] at this; exact this
            have dfv := opA_ok htm fo _ hf
            simp only [Den] at dfv
            obtain ⟨va, vc, hfe, da, dc⟩ := dfv
            have dvs := optL_ok (ρ := a.eval) ha (fun x hx u e => opA_ok htm x u e)
            have harr : args.map a.eval = List.toArray (args.toList.map a.eval) := by apply Array.toList_inj.1; simp
            have hinv : (ex a.eval o.op o.type).run Pr w = .ok (.defer { target := .fn (.func g) (List.toArray vc), args := List.toArray (va ++ args.toList.map a.eval) }) w := by
              rw [hop]; simp only [ex, execOp, resolve, hfe, harr, Deferred.ofValue, Sem.run_bind, Sem.run_pure, Result.andThen_ok]; simp
            have hst : step Pr (lone (b.atR a (.inRegion ops (i :: r) :: K)) (Fs ++ cs0) w) = .next (lone (b.atR ({ a with defers := { target := .fn (.func g) (List.toArray vc), args := List.toArray (va ++ args.toList.map a.eval) } :: a.defers }.put o.dst undef) (.inRegion ops r :: K)) (Fs ++ cs0) w) := by
              refine step_lone_go ?_
              have hfin := Frame.finish_atR b { a with defers := { target := .fn (.func g) (List.toArray vc), args := List.toArray (va ++ args.toList.map a.eval) } :: a.defers } ops i r K undef
              rw [ho] at hfin
              rw [stepGR_op ho hwant, hro, Oper.semAt_none, ex_eq]
              simp only [stepG.apply, Sem.runT_eq, hinv, GStep.bare_after]
              exact congrArg (fun fr => GStep.go { frame := fr, callers := Fs ++ cs0, status := .running, dying := none } w) hfin
            refine ⟨_, .one hst, L, β, w, _, Fs, rfl, hw, ?_, hcs⟩
            have hf0 := fin_ok hb hm hbeh (LeA.refl _) (x := undef) (v := .tup []) ⟨[], rfl, DenL.nil_iff.2 rfl⟩ hd
            have e1 : ({ a with defers := { target := .fn (.func g) (List.toArray vc), args := List.toArray (va ++ args.toList.map a.eval) } :: a.defers } : Act).put o.dst undef = { (a.put o.dst undef) with defers := { target := .fn (.func g) (List.toArray vc), args := List.toArray (va ++ args.toList.map a.eval) } :: a.defers } := by cases o.dst <;> rfl
            have e2 : putA { fr with df := .fn g cp (fa ++ vs) :: fr.df } o.dst (.tup []) = { putA fr o.dst (.tup []) with df := .fn g cp (fa ++ vs) :: fr.df } := by cases o.dst <;> rfl
            rw [e1]
            show FrR ω L β (putA { fr with df := .fn g cp (fa ++ vs) :: fr.df } o.dst (.tup [])) _
            rw [e2]
            refine ⟨⟨hf0.1.fn, hf0.1.sz, ⟨_, a.defers, rfl, ⟨vc, _, rfl, dc, da.append dvs⟩, hb.df⟩, hf0.1.kd, hf0.1.rd⟩, hf0.2⟩
          · trivial
        · rename_i x hop
          split
          · rename_i t v hx
            have hnd : ∀ c, o.op ≠ .defer c := by rw [hop]; intro c hc; cases hc
            have dx := opA_ok htm x _ hx
            have dx' := dx
            simp only [Den] at dx; obtain ⟨y, hy, dy⟩ := dx
            have hinv : (ex a.eval o.op o.type).run Pr w = .halt (.panic (.iface t y)) w := by rw [hop]; simp [ex, execOp, Instr.panic, hy]
            have hst : step Pr (lone (b.atR a (.inRegion ops (i :: r) :: K)) (Fs ++ cs0) w) = .next (lone { b.atR a (.inRegion ops (i :: r) :: K) with mode := .panicking [{ v := .iface t y, recovered := false }] } (Fs ++ cs0) w) := by
              refine step_lone_go ?_
              rw [stepGR_op ho hwant, Oper.semAt_eq _ _ _ hnd, ex_eq, ← Frame.raise_atR]
              simp [stepG.apply, hinv]
            refine ⟨_, .one hst, L, β, w, _, Fs, rfl, hw, ⟨⟨hb.fn, hb.sz, hb.df, hb.kd, hb.rd⟩, ⟨_, rfl, _, [], rfl, by rw [← hy]; exact dx', rfl⟩, htm⟩, hcs⟩
          · trivial
        · trivial

end oper

end Go.Proofs.YtbgkljpbemehiaaGreat.Sx
