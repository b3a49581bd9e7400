/- A run with known values: operations that only read, one by one. No condition. -/
import Derived.Test.YtbgkljpbemehiaaGreatV2
set_option maxHeartbeats 2000000
namespace Go.Proofs.YtbgkljpbemehiaaGreat.Sx

variable {ω : List Value} {β β' : List (Option B3)} {B : World} {H : HV} {nx : Nat} {w : World} {Pr : Program}

theorem bcond {b : Bool} {α : Type} {x : Option α} {y : α} (h : (bif b then x else none) = some y) : b = true ∧ x = some y := by cases b <;> simp at h ⊢; exact h
theorem bcond' {b : Bool} {α : Type} {x : Option α} {y : α} (h : (bif b then none else x) = some y) : b = false ∧ x = some y := by cases b <;> simp at h ⊢; exact h

theorem unA_ok {o : UnOp} {v r : V} {a : Value} (h : unA o v = some r) (dv : Den ω β v a) (w : World) : ∃ z, (Op.unary o a).run Pr w = .ok z w ∧ Den ω β r z := by
  unfold unA at h
  split at h
  · simp only [Den] at dv; subst dv
    cases o <;> simp at h; subst h; exact ⟨_, by simp [Op.unary], rfl⟩
  · simp only [Den] at dv; subst dv
    cases o <;> simp [intB] at h
    · subst h; exact ⟨_, by simp [Op.unary, Op.intArith], rfl⟩
    · subst h; exact ⟨_, by simp [Op.unary, Op.intBits], rfl⟩
  · cases h

theorem byt_push (s : List Nat) (b : Nat) : (byt s).push (UInt8.ofNat b) = byt (s ++ [b]) := by
  apply ByteArray.ext; simp [byt]
theorem bytesV_ok : ∀ {cs : List V} {bs : List Nat} {xs : List Value}, bytesV cs = some bs → DenL ω β cs xs → (∀ b ∈ bs, b < 256) ∧ xs = bs.map fun b : Nat => Value.int .u8 (b : Int)
  | [], bs, xs, h, d => by simp [bytesV] at h; subst h; rw [DenL.nil_iff.1 d]; simp
  | v :: cs, bs, xs, h, d => by
    obtain ⟨n, rfl⟩ : ∃ n, v = .int .u8 n := by
      cases v <;> first | (simp [bytesV] at h; done) | skip
      rename_i k n
      cases k <;> first | (simp [bytesV] at h; done) | exact ⟨_, rfl⟩
    simp only [bytesV] at h
    split at h
    · rename_i r hr
      obtain ⟨h1, h2⟩ := bcond h
      simp only [Option.some.injEq] at h2; subst h2
      simp only [Bool.and_eq_true, decide_eq_true_eq] at h1
      obtain ⟨y, ys, rfl, d1, d2⟩ := DenL.cons_iff.1 d
      simp only [Den] at d1; subst d1
      obtain ⟨a, b⟩ := bytesV_ok hr d2
      refine ⟨fun x hx => ?_, ?_⟩
      · rcases List.mem_cons.1 hx with rfl | hx
        · omega
        · exact a x hx
      · simp only [List.map_cons, b]; congr 2; omega
    · cases h
theorem run_b2s {g : Value → ByteArray → Sem (ForInStep ByteArray)} (hg : ∀ (n : Int) s, g (.int .u8 n) s = pure (ForInStep.yield (s.push (UInt8.ofNat n.toNat)))) : ∀ (bs acc : List Nat) (w : World), (forIn (bs.map fun b : Nat => Value.int .u8 (b : Int)) (byt acc) g : Sem ByteArray).run Pr w = .ok (byt (acc ++ bs)) w
  | [], acc, w => by simp
  | b :: bs, acc, w => by
    rw [List.map_cons, List.forIn_cons, hg]
    simp only [Sem.run_bind, Sem.run_pure, Result.andThen_ok, Int.toNat_natCast, byt_push]
    rw [run_b2s hg bs (acc ++ [b]) w]; simp
theorem b2s_ok (hw : WR B ω H nx β w) {i o l : Nat} {t : TypeId} {cs r : List V} {bs : List Nat} {b f n : Nat} (hb : bt β i = some (b, f, n)) (hc : clV H i = some (t, cs)) (hl : ldV cs o l = some r) (hs : bytesV r = some bs) (c : Nat) :
    (Conv.bytesToString (.slice (some ⟨b, f + o, none⟩) l c)).run Pr w = .ok (.string (byt bs)) w ∧ ∀ b ∈ bs, b < 256 := by
  obtain ⟨all, fr, e1, e2, e3, e4, e5⟩ := hw.cells (clV_ok hc) hb
  obtain ⟨xs, h1, h2⟩ := ldV_at e5 hl
  obtain ⟨a1, rfl⟩ := bytesV_ok hs h2
  refine ⟨?_, a1⟩
  simp only [Conv.bytesToString, Sem.run_bind, run_loadCells e1 h1, Result.andThen_ok]
  rw [← Array.forIn_toList]
  have e0 : ByteArray.empty = byt [] := rfl
  rw [e0, run_b2s (fun n s => rfl)]; simp

theorem cvA_ok (hw : WR B ω H nx β w) {s t : TypeId} {v r : V} {a : Value} (h : cvA Pr H s t v = some r) (dv : Den ω β v a) : ∃ z, (convert s t a).run Pr w = .ok z w ∧ Den ω β r z := by
  unfold cvA at h
  split at h
  · rename_i d k k' n h1 h2
    simp only [Den] at dv; subst dv
    simp at h; subst h
    exact ⟨_, by simp [convert, und h1, und h2, Conv.intToInt], rfl⟩
  · rename_i d k n h1 h2
    simp only [Den] at dv; subst dv
    obtain ⟨g, h3⟩ := bcond h
    simp only [Bool.and_eq_true, decide_eq_true_eq] at g
    simp only [Option.some.injEq] at h3; subst h3
    refine ⟨.string (byt [n.toNat]), ?_, rfl, by intro b hb; rw [List.mem_singleton.1 hb]; omega⟩
    have e : Utf8.encode n = byt [n.toNat] := by
      have hv : Utf8.valid n = true := by simp [Utf8.valid]; omega
      have hlt : n.toNat < 128 := by omega
      simp [Utf8.encode, hv, hlt, byt]
    simp [convert, und h1, und h2, Conv.intToString, e]
  · rename_i d b h1 h2
    simp only [Den] at dv; obtain ⟨rfl, hb⟩ := dv
    simp at h; subst h
    refine ⟨_, ?_, rfl, hb⟩
    simp [convert, und h1, und h2]
  · rename_i e h1 h2
    simp only [Den] at dv; subst dv
    split at h
    · rename_i h3; simp at h; subst h
      exact ⟨.string (byt []), by simp [convert, und h1, und h2, und h3, Conv.bytesToString]; rfl, rfl, by simp⟩
    · cases h
  · rename_i e i o l c h1 h2
    simp only [Den] at dv; obtain ⟨b, f, n, hb, rfl, _⟩ := dv
    split at h
    · rename_i t' cs h3 h4
      simp only [Option.bind_eq_some_iff, Option.map_eq_some_iff] at h
      obtain ⟨r', h5, bs, h6, rfl⟩ := h
      obtain ⟨h7, h8⟩ := b2s_ok (Pr := Pr) hw hb h4 h5 h6 c
      exact ⟨_, by simp [convert, und h1, und h2, und h3, h7], rfl, h8⟩
    · cases h
  · rename_i e i o l z h1 h2
    simp only [Den] at dv; obtain ⟨b, f, n, c, hb, rfl, _⟩ := dv
    split at h
    · rename_i t' cs h3 h4
      simp only [Option.bind_eq_some_iff, Option.map_eq_some_iff] at h
      obtain ⟨r', h5, bs, h6, rfl⟩ := h
      obtain ⟨h7, h8⟩ := b2s_ok (Pr := Pr) hw hb h4 h5 h6 c
      exact ⟨_, by simp [convert, und h1, und h2, und h3, h7], rfl, h8⟩
    · cases h
  · cases h

theorem add_at (b f o m : Nat) : (Addr.add ⟨b, f + o, none⟩ m : Addr) = ⟨b, f + (o + m), none⟩ := by rw [Addr.add_none]; congr 1; omega

theorem idxA_ok {t : TypeId} {v r : V} {a : Value} {k : IntKind} {j : Int} (h : idxA Pr t v j = some r) (dv : Den ω β v a) (w : World) : ∃ z, (Instr.indexAt t a (.int k j)).run Pr w = .ok z w ∧ Den ω β r z := by
  unfold idxA at h
  replace h := bcond' h
  obtain ⟨hj, h⟩ := h
  simp only [decide_eq_false_iff_not] at hj
  split at h
  · rename_i e i o l c h1
    simp only [Den] at dv; obtain ⟨b, f, n, hb, rfl, _⟩ := dv
    split at h
    · rename_i z hz
      obtain ⟨h2, h3⟩ := bcond h
      simp only [decide_eq_true_eq] at h2
      simp at h3; subst h3
      refine ⟨_, ?_, b, f, n, hb, rfl⟩
      simp only [Instr.indexAt, asIntOf, Sem.run_bind, Sem.run_pure, Result.andThen_ok, und h1, run_szV hz]
      rw [if_pos ⟨by omega, h2⟩]; simp [run_szV hz, add_at]
    · cases h
  · rename_i e i o l z' h1
    simp only [Den] at dv; obtain ⟨b, f, n, c, hb, rfl, _⟩ := dv
    split at h
    · rename_i z hz
      obtain ⟨h2, h3⟩ := bcond h
      simp only [decide_eq_true_eq] at h2
      simp at h3; subst h3
      refine ⟨_, ?_, b, f, n, hb, rfl⟩
      simp only [Instr.indexAt, asIntOf, Sem.run_bind, Sem.run_pure, Result.andThen_ok, und h1, run_szV hz]
      rw [if_pos ⟨by omega, h2⟩]; simp [run_szV hz, add_at]
    · cases h
  · rename_i nn e i o h1
    simp only [Den] at dv; obtain ⟨b, f, n, hb, rfl⟩ := dv
    split at h
    · rename_i z hz
      obtain ⟨h2, h3⟩ := bcond h
      simp only [decide_eq_true_eq] at h2
      simp at h3; subst h3
      refine ⟨_, ?_, b, f, n, hb, rfl⟩
      simp only [Instr.indexAt, asIntOf, Sem.run_bind, Sem.run_pure, Result.andThen_ok, und h1, run_szV hz, Instr.sureAddr]
      rw [if_pos ⟨by omega, h2⟩]; simp [run_szV hz, add_at]
    · cases h
  · cases h

theorem ixA_ok {t : TypeId} {v r : V} {a : Value} {k : IntKind} {j : Int} (h : ixA Pr t v j = some r) (dv : Den ω β v a) (w : World) : ∃ z, (Instr.index t a (.int k j)).run Pr w = .ok z w ∧ Den ω β r z := by
  unfold ixA at h
  replace h := bcond' h
  obtain ⟨hj, h⟩ := h
  simp only [decide_eq_false_iff_not] at hj
  split at h
  · rename_i s h1
    simp only [Den] at dv; obtain ⟨rfl, hb⟩ := dv
    simp only [Option.map_eq_some_iff] at h
    obtain ⟨b, h2, rfl⟩ := h
    obtain ⟨hlt, h3⟩ := List.getElem?_eq_some_iff.1 h2
    refine ⟨_, ?_, rfl⟩
    have h4 : (byt s)[j.toNat]? = some (UInt8.ofNat b) := by
      rw [ByteArray.getElem?_lt' _ _ (by rw [byt_size]; exact hlt)]
      simp [byt, ByteArray.getElem_eq_getElem_data, h3]
    simp only [Instr.index, asIntOf, Sem.run_bind, Sem.run_pure, Result.andThen_ok, und h1]
    rw [if_pos (by omega), h4]
    have hlt' := hb b (h3 ▸ List.getElem_mem hlt)
    simp; omega
  · rename_i n e cs h1
    simp only [Den] at dv; obtain ⟨xs, rfl, dx⟩ := dv
    split at h
    · rename_i z hz
      obtain ⟨h2, h3⟩ := bcond h
      simp only [decide_eq_true_eq] at h2
      obtain ⟨x, h4, h5⟩ := partV_ok h3 dx w
      refine ⟨x, ?_, h5⟩
      simp only [Instr.index, asIntOf, Sem.run_bind, Sem.run_pure, Result.andThen_ok, und h1]
      rw [if_pos ⟨by omega, h2⟩]; simp [run_szV hz, h4]
    · cases h
  · cases h

/-! ### slices -/
abbrev EvR (ω : List Value) (β : List (Option B3)) (ev : Operand → Option V) (ρ : Operand → Value) (l : List Operand) : Prop := ∀ x ∈ l, ∀ u, ev x = some u → Den ω β u (ρ x)
theorem sb_ok {ev : Operand → Option V} {ρ : Operand → Value} {x : Operand} {d i y : Nat} {code : BoundsCode} (h : bdA d ev (some x) = some i) (hev : ∀ u, ev x = some u → Den ω β u (ρ x)) (hi : i ≤ y) (w : World) : (Instr.sliceBound (ρ x) y code).run Pr w = .ok i w := by
  simp only [bdA] at h
  split at h
  · rename_i k n e
    obtain ⟨h1, h2⟩ := bcond h
    simp only [decide_eq_true_eq] at h1
    simp only [Option.some.injEq] at h2
    have := hev _ e
    simp only [Den] at this
    simp only [Instr.sliceBound, this, asIntOf, Sem.run_bind, Sem.run_pure, Result.andThen_ok]
    rw [if_pos ⟨h1, by omega⟩, ← h2]; rfl
  · cases h
theorem sbs_ok {ev : Operand → Option V} {ρ : Operand → Value} {lo hi mx : Option Operand} {q : Bool} {len cap l h m : Nat} (hev : EvR ω β ev ρ (lo.toList ++ hi.toList ++ mx.toList)) (h1 : bdA 0 ev lo = some l) (h2 : bdA len ev hi = some h) (h3 : bdA cap ev mx = some m)
    (k1 : l ≤ h) (k2 : hi.isSome = true → h ≤ m) (k3 : m ≤ cap) (k4 : mx.isSome = true → hi.isSome = true) (w : World) : (Instr.sliceBounds q len cap (lo.map ρ) (hi.map ρ) (mx.map ρ)).run Pr w = .ok (l, h, m) w := by
  have hm : ∀ x, mx = some x → ∀ code, (Instr.sliceBound (ρ x) cap code).run Pr w = .ok m w := by
    rintro x rfl code; exact sb_ok h3 (fun u e => hev x (by simp) u e) k3 w
  have hh : ∀ x, hi = some x → ∀ code, (Instr.sliceBound (ρ x) m code).run Pr w = .ok h w := by
    rintro x rfl code; exact sb_ok h2 (fun u e => hev x (by simp) u e) (k2 rfl) w
  have hl : ∀ x, lo = some x → ∀ code, (Instr.sliceBound (ρ x) h code).run Pr w = .ok l w := by
    rintro x rfl code; exact sb_ok h1 (fun u e => hev x (by simp) u e) k1 w
  have em : mx = none → cap = m := by rintro rfl; simpa [bdA] using h3
  have eh : hi = none → len = h := by rintro rfl; simpa [bdA] using h2
  have el : lo = none → 0 = l := by rintro rfl; simpa [bdA] using h1
  unfold Instr.sliceBounds
  cases mx with
  | none =>
    obtain rfl := em rfl
    cases hi with
    | none =>
      obtain rfl := eh rfl
      cases lo with
      | none => obtain rfl := el rfl; simp
      | some x => simp [hl x rfl]
    | some y =>
      cases lo with
      | none => obtain rfl := el rfl; simp [hh y rfl]
      | some x => simp [hh y rfl, hl x rfl]
  | some z =>
    cases hi with
    | none => cases k4 rfl
    | some y =>
      cases lo with
      | none => obtain rfl := el rfl; simp [hm z rfl, hh y rfl]
      | some x => simp [hm z rfl, hh y rfl, hl x rfl]

theorem off_at {b f o l z m : Nat} : (if m = l then (⟨b, f + o, none⟩ : Addr) else Addr.add ⟨b, f + o, none⟩ (l * z)) = ⟨b, f + (bif Nat.beq m l then o else o + l * z), none⟩ := by
  by_cases e : m = l
  · subst e; simp
  · rw [if_neg e, beq_ne e, add_at]; rfl
theorem sliceA_ok {ev : Operand → Option V} {ρ : Operand → Value} {t : TypeId} {v r : V} {a : Value} {lo hi mx : Option Operand} (hev : EvR ω β ev ρ (lo.toList ++ hi.toList ++ mx.toList)) (h : sliceA Pr ev t v lo hi mx = some r) (dv : Den ω β v a) (w : World) :
    ∃ z, (Instr.sliceAt t a (lo.map ρ) (hi.map ρ) (mx.map ρ)).run Pr w = .ok z w ∧ Den ω β r z := by
  unfold sliceA at h
  split at h
  · rename_i s h1
    simp only [Den] at dv; obtain ⟨rfl, hb⟩ := dv
    split at h
    · rename_i l hh h2 h3
      obtain ⟨h4, h5⟩ := bcond h
      simp only [Bool.and_eq_true] at h4
      have k1 := Nat.le_of_ble_eq_true h4.1
      have k2 := Nat.le_of_ble_eq_true h4.2
      simp at h5; subst h5
      have hs := sbs_ok (Pr := Pr) (mx := none) (q := false) (cap := s.length) (by simpa using hev) h2 h3 rfl k1 (fun _ => k2) (Nat.le_refl _) (by simp) w
      refine ⟨.string (byt ((s.drop l).take (hh - l))), ?_, rfl, fun x hx => hb x (List.mem_of_mem_drop (List.mem_of_mem_take hx))⟩
      simp only [Option.map_none] at hs
      simp only [Instr.sliceAt, Instr.slice, Sem.run_bind, und h1, Result.andThen_ok, Option.map_none, Option.isSome_none, Bool.false_eq_true, if_false, Sem.run_pure, byt_size, hs]
      congr 2
      apply ByteArray.ext
      simp [byt, ByteArray.data_extract, List.map_take, List.map_drop, List.extract_eq_take_drop]
    · cases h
  · rename_i e h1
    simp only [Den] at dv; subst dv
    split at h
    · rename_i z0 l hh m hz h2 h3 h4
      obtain ⟨c, h5⟩ := bcond h
      simp only [Bool.and_eq_true, Bool.or_eq_true, Bool.not_eq_true'] at c
      obtain ⟨⟨⟨c1, c2⟩, c3⟩, c4⟩ := c
      have c1 := Nat.eq_of_beq_eq_true c1
      have c2 := Nat.eq_of_beq_eq_true c2
      have c3 := Nat.eq_of_beq_eq_true c3
      subst c1; subst c2; subst c3
      simp at h5; subst h5
      have hs := sbs_ok (Pr := Pr) (q := true) (len := 0) (cap := 0) hev h2 h3 h4 (Nat.le_refl _) (fun _ => Nat.le_refl _) (Nat.le_refl _) (fun e => c4.elim (fun x => by rw [x] at e; cases e) id) w
      exact ⟨.slice none 0 0, by simp [Instr.sliceAt, Instr.slice, und h1, hs, run_szV hz], rfl⟩
    · cases h
  · rename_i e i o n c h1
    simp only [Den] at dv; obtain ⟨b, f, bn, hb, rfl, hnc⟩ := dv
    split at h
    · rename_i z l hh m hz h2 h3 h4
      obtain ⟨k, h5⟩ := bcond h
      simp only [Bool.and_eq_true, Bool.or_eq_true, Bool.not_eq_true'] at k
      obtain ⟨⟨⟨k1, k2⟩, k3⟩, k4⟩ := k
      have k1 := Nat.le_of_ble_eq_true k1
      have k2 := Nat.le_of_ble_eq_true k2
      have k3 := Nat.le_of_ble_eq_true k3
      simp at h5; subst h5
      have hs := sbs_ok (Pr := Pr) (q := true) hev h2 h3 h4 k1 (fun _ => k2) k3 (fun e => k4.elim (fun x => by rw [x] at e; cases e) id) w
      refine ⟨.slice (some (if m = l then ⟨b, f + o, none⟩ else Addr.add ⟨b, f + o, none⟩ (l * z))) (hh - l) (m - l), ?_, b, f, bn, hb, by rw [off_at], by omega⟩
      simp only [Instr.sliceAt, Instr.slice, Sem.run_bind, und h1, Result.andThen_ok, hs, run_szV hz, Sem.run_pure, Option.map_some]
      congr 2; split <;> rfl
    · cases h
  · rename_i e i o n z h1
    simp only [Den] at dv; obtain ⟨b, f, bn, c, hb, rfl, hnc, hroom⟩ := dv
    split at h
    · rename_i z' l hh hz h2 h3
      obtain ⟨k, h5⟩ := bcond h
      simp only [Bool.and_eq_true] at k
      obtain ⟨⟨k1, k2⟩, k3⟩ := k
      have k1 := Nat.eq_of_beq_eq_true k1
      have k2 := Nat.le_of_ble_eq_true k2
      have k3 := Nat.le_of_ble_eq_true k3
      subst k1
      have hs := sbs_ok (Pr := Pr) (q := true) (mx := none) (cap := c) (by simpa using hev) h2 h3 rfl k2 (fun _ => by omega) (Nat.le_refl _) (by simp) w
      simp only [Option.map_none] at hs
      have hrun : (Instr.sliceAt t (.slice (some ⟨b, f + o, none⟩) n c) (lo.map ρ) (hi.map ρ) none).run Pr w = .ok (.slice (some (if c = l then ⟨b, f + o, none⟩ else Addr.add ⟨b, f + o, none⟩ (l * z))) (hh - l) (c - l)) w := by
        simp only [Instr.sliceAt, Instr.slice, Sem.run_bind, und h1, Result.andThen_ok, hs, run_szV hz, Sem.run_pure, Option.map_some]
        congr 2; split <;> rfl
      cases hlt : Nat.blt l n with
      | true =>
        rw [hlt] at h5; simp at h5; subst h5
        simp only [Nat.blt_eq] at hlt
        refine ⟨_, hrun, b, f, bn, c - l, hb, ?_, by omega, ?_⟩
        · rw [off_at, beq_ne (by omega)]; rfl
        · have : (c - l) * z + l * z = c * z := by rw [← Nat.add_mul]; congr 1; omega
          omega
      | false =>
        rw [hlt] at h5; simp at h5; subst h5
        have hlt : ¬ l < n := fun e => by rw [show l.blt n = true by simpa [Nat.blt_eq] using e] at hlt; cases hlt
        refine ⟨_, hrun, (if c = l then ⟨b, f + o, none⟩ else Addr.add ⟨b, f + o, none⟩ (l * z)), c - l, ?_⟩
        rw [show hh - l = 0 by omega]
    · rename_i z' l hh x hz h2 h3
      split at h
      · rename_i m h4
        obtain ⟨k, h5⟩ := bcond h
        simp only [Bool.and_eq_true] at k
        obtain ⟨⟨⟨⟨k1, k2⟩, k3⟩, k4⟩, k5⟩ := k
        have k1 := Nat.eq_of_beq_eq_true k1
        have k2 := Nat.le_of_ble_eq_true k2
        have k3 := Nat.le_of_ble_eq_true k3
        have k4 := Nat.le_of_ble_eq_true k4
        subst k1
        simp at h5; subst h5
        have h4' : bdA c ev (some x) = some m := h4
        have hs := sbs_ok (Pr := Pr) (q := true) hev h2 h3 h4' k2 (fun _ => k3) (by omega) (fun _ => k5) w
        simp only [Option.map_some] at hs
        refine ⟨.slice (some (if m = l then ⟨b, f + o, none⟩ else Addr.add ⟨b, f + o, none⟩ (l * z))) (hh - l) (m - l), ?_, b, f, bn, hb, by rw [off_at], by omega⟩
        simp only [Instr.sliceAt, Instr.slice, Sem.run_bind, und h1, Result.andThen_ok, hs, run_szV hz, Sem.run_pure, Option.map_some]
        congr 2; split <;> rfl
      · cases h
    · cases h
  · rename_i nn e i o h1
    simp only [Den] at dv; obtain ⟨b, f, bn, hb, rfl⟩ := dv
    split at h
    · rename_i z l hh hz h2 h3
      obtain ⟨k, h5⟩ := bcond h
      simp only [Bool.and_eq_true] at k
      have k1 := Nat.le_of_ble_eq_true k.1
      have k2 := Nat.le_of_ble_eq_true k.2
      simp at h5; subst h5
      have hs := sbs_ok (Pr := Pr) (q := false) (mx := none) (cap := nn) (by simpa using hev) h2 h3 rfl k1 (fun _ => by omega) (Nat.le_refl _) (by simp) w
      simp only [Option.map_none] at hs
      refine ⟨.slice (some (if nn = l then ⟨b, f + o, none⟩ else Addr.add ⟨b, f + o, none⟩ (l * z))) (hh - l) (nn - l), ?_, b, f, bn, hb, by rw [off_at], by omega⟩
      simp only [Instr.sliceAt, Sem.run_bind, und h1, Result.andThen_ok, Instr.sureAddr, Sem.run_pure, Option.map_none, hs, run_szV hz]
    · cases h
  · cases h

theorem EsR.length : ∀ {l : List (V × V × Nat)} {es : List MapEntry}, EsR ω β l es → es.length = l.length
  | [], es, h => by have : es = [] := h; subst this; rfl
  | _ :: l, es, ⟨_, _, r, e, _, _, h⟩ => by subst e; simp [EsR.length h]
theorem WR.mapAt (hw : WR B ω H nx β w) {i : Nat} {es : List (V × V × Nat)} {c : Nat} {b f n : Nat} (e : H.get i = some (.map es c)) (hb : bt β i = some (b, f, n)) : ∃ l, w.heap[b]? = some (.map (List.toArray l) c) ∧ EsR ω β es l := by
  obtain ⟨ob, h1, l, rfl, h2⟩ := hw.at e hb
  exact ⟨l, h1, h2⟩
theorem run_getMap {b : Nat} {l : List MapEntry} {c : Nat} (h : w.heap[b]? = some (.map (List.toArray l) c)) : (getObj b).run Pr w = .ok (.map (List.toArray l) c) w := by
  simp [getObj, Sem.run, h]

theorem lenA_ok (hw : WR B ω H nx β w) {t ty : TypeId} {v r : V} {a : Value} (h : lenA Pr H t v = some r) (dv : Den ω β v a) : ∃ z, (Builtin.len_ #[t] ty #[a]).run Pr w = .ok z w ∧ Den ω β r z := by
  unfold lenA at h
  split at h
  · rename_i s h1; simp only [Den] at dv; obtain ⟨rfl, _⟩ := dv; simp at h; subst h; exact ⟨_, by simp [Builtin.len_, und h1, goInt, byt_size], rfl⟩
  · rename_i h1; simp only [Den] at dv; subst dv; simp at h; subst h; exact ⟨_, by simp [Builtin.len_, und h1, goInt], rfl⟩
  · rename_i h1; simp only [Den] at dv; obtain ⟨_, _, rfl⟩ := dv; simp at h; subst h; exact ⟨_, by simp [Builtin.len_, und h1, goInt], rfl⟩
  · rename_i h1; simp only [Den] at dv; obtain ⟨_, _, _, _, rfl, _⟩ := dv; simp at h; subst h; exact ⟨_, by simp [Builtin.len_, und h1, goInt], rfl⟩
  · rename_i h1; simp only [Den] at dv; obtain ⟨_, _, _, _, _, rfl, _⟩ := dv; simp at h; subst h; exact ⟨_, by simp [Builtin.len_, und h1, goInt], rfl⟩
  · rename_i h1; simp only [Den] at dv; subst dv; simp at h; subst h; exact ⟨_, by simp [Builtin.len_, und h1, goInt], rfl⟩
  · rename_i i h1; simp only [Den] at dv; obtain ⟨b, f, n, hb, rfl⟩ := dv
    split at h
    · rename_i es c h2
      simp at h; subst h
      obtain ⟨l, h3, h4⟩ := hw.mapAt h2 hb
      exact ⟨_, by simp [Builtin.len_, und h1, goInt, run_getMap h3, h4.length], rfl⟩
    · cases h
  · cases h

/-! ### literals -/
theorem set_fold : ∀ (vs cells : List Value) (off j : Nat), (vs.zipIdx j).foldl (fun (cs : Array Value) (c : Value × Nat) => cs.setIfInBounds (off + c.2) c.1) (List.toArray cells) = List.toArray ((vs.zipIdx j).foldl (fun (cs : List Value) c => cs.set (off + c.2) c.1) cells)
  | [], cells, off, j => rfl
  | v :: vs, cells, off, j => by simp only [List.zipIdx_cons, List.foldl_cons, List.setIfInBounds_toArray]; exact set_fold vs _ off (j + 1)
theorem set_over : ∀ (vs cells : List Value) (off j : Nat), off + j + vs.length ≤ cells.length → (vs.zipIdx j).foldl (fun (cs : List Value) c => cs.set (off + c.2) c.1) cells = cells.take (off + j) ++ vs ++ cells.drop (off + j + vs.length)
  | [], cells, off, j, h => by simp
  | v :: vs, cells, off, j, h => by
    simp only [List.length_cons] at h
    simp only [List.zipIdx_cons, List.foldl_cons]
    rw [set_over vs _ off (j + 1) (by simp; omega)]
    have hlt : off + j < cells.length := by omega
    rw [show off + (j + 1) = off + j + 1 by omega, List.take_set, List.drop_set_of_lt (by omega), List.take_succ_eq_append_getElem hlt, List.set_append]
    have : (cells.take (off + j)).length = off + j := by simp; omega
    rw [if_neg (by rw [this]; omega), this, Nat.sub_self]
    simp [Nat.add_assoc, Nat.add_comm 1]
theorem stV_ok {cs vs cs' : List V} {o : Nat} {xs ys : List Value} (h : stV cs o vs = some cs') (dx : DenL ω β cs xs) (dy : DenL ω β vs ys) : o + ys.length ≤ xs.length ∧ DenL ω β cs' (xs.take o ++ ys ++ xs.drop (o + ys.length)) := by
  unfold stV at h
  obtain ⟨h1, h2⟩ := bcond h
  have h1 := Nat.le_of_ble_eq_true h1
  simp only [Option.some.injEq] at h2; subst h2
  rw [dy.length]
  exact ⟨by rw [dx.length]; exact h1, ((dx.take o).append dy).append (dx.drop _)⟩
def PaR (ω : List Value) (β : List (Option B3)) : List (Nat × V) → List (Nat × Value) → Prop
  | [], l => l = []
  | (i, v) :: r, l => ∃ x s, l = (i, x) :: s ∧ Den ω β v x ∧ PaR ω β r s
theorem Den.notTup {v : V} {x : Value} (h : Den ω β v x) (hx : ∀ l, x ≠ .tuple l) : ∀ l, v ≠ .tup l := by
  rintro l rfl; simp only [Den] at h; obtain ⟨xs, rfl, _⟩ := h; exact hx _ rfl
theorem fillV_ok {pl : Nat → Option (Nat × Nat)} : ∀ {ps : List (Nat × V)} {cs cs' : List V} {qs : List (Nat × Value)} {xs : List Value}, fillV pl cs ps = some cs' → PaR ω β ps qs → DenL ω β cs xs → ∃ ys, Instr.fill pl (List.toArray xs) qs = some (List.toArray ys) ∧ DenL ω β cs' ys
  | [], cs, cs', qs, xs, h, hp, d => by have : qs = [] := hp; subst this; simp [fillV] at h; subst h; exact ⟨xs, rfl, d⟩
  | (i, v) :: ps, cs, cs', qs, xs, h, ⟨x, s, e, dv, hp⟩, d => by
    subst e
    simp only [fillV] at h
    split at h
    · cases h
    · rename_i off size hpl
      obtain ⟨h1, h2⟩ := bcond h
      simp only [Bool.and_eq_true] at h1
      obtain ⟨h0, h1⟩ := h1
      have h1 := Nat.eq_of_beq_eq_true h1
      split at h2
      · rename_i c hst
        have dc := dv.cells (noTup_ok h0)
        obtain ⟨h3, h4⟩ := stV_ok hst d dc
        obtain ⟨ys, h5, h6⟩ := fillV_ok h2 hp h4
        refine ⟨ys, ?_, h6⟩
        have hsz : x.cells.size = size := by rw [← h1, ← dc.length]; simp
        have hle : off + x.cells.size ≤ xs.length := by rw [← Array.length_toList]; exact h3
        have hx : x.cells = x.cells.toList.toArray := by simp
        rw [Instr.fill, hpl]
        simp only []
        rw [if_neg (by simp only [ne_eq, Bool.or_eq_true, decide_eq_true_eq, not_or, List.size_toArray]; exact ⟨by simpa using hsz, by omega⟩), ← h5]
        congr 1
        rw [← Array.foldl_toList, Array.toList_zipIdx, set_fold, set_over _ _ _ _ (by simpa using hle)]
        simp
      · cases h2
theorem placesV_ok : ∀ {fs : List Field} {pl : List (Nat × Nat)} (w : World), placesV Pr fs = some pl → (fs.mapM (fun f => (do pure (f.offset, ← sizeOf f.type) : Sem (Nat × Nat)))).run Pr w = .ok pl w
  | [], pl, w, h => by simp [placesV, optL] at h; subst h; simp
  | f :: fs, pl, w, h => by
    simp only [placesV, optL] at h
    split at h
    · rename_i y r h1 h2
      simp only [Option.map_eq_some_iff] at h1
      obtain ⟨n, h3, rfl⟩ := h1
      simp at h; subst h
      have := placesV_ok w (show placesV Pr fs = some r from h2)
      simp only [List.mapM_cons, Sem.run_bind, run_szV h3, Result.andThen_ok, Sem.run_pure, this]
    · cases h
theorem buildA_ok {t : TypeId} {ps : List (Nat × V)} {qs : List (Nat × Value)} {r : V} (h : buildA Pr t ps = some r) (hp : PaR ω β ps qs) (w : World) : ∃ z, (Instr.build t (List.toArray qs)).run Pr w = .ok z w ∧ Den ω β r z := by
  unfold buildA at h
  split at h
  · rename_i z fs h1 h2
    split at h
    · rename_i pl h3
      replace h := bcond h
      obtain ⟨h0, h⟩ := h
      have hz := noTup_ok h0
      simp only [Option.map_eq_some_iff] at h
      obtain ⟨cs, h4, rfl⟩ := h
      obtain ⟨zv, h5, h6⟩ := run_zeV (ω := ω) (β := β) h1 w
      obtain ⟨ys, h7, h8⟩ := fillV_ok h4 hp (h6.cells hz)
      refine ⟨.agg (List.toArray ys), ?_, ys, rfl, h8⟩
      have hpl := placesV_ok w h3
      simp only [Instr.build, Sem.run_bind, h5, Result.andThen_ok, und h2]
      rw [Array.mapM_eq_mapM_toList]
      simp only [Sem.run_map, hpl, Result.andThen_ok]
      have e0 : (fun i : Nat => (List.toArray pl)[i]?) = fun i : Nat => pl[i]? := by funext i; simp
      have e1 : (List.toArray zv.cells.toList) = zv.cells := by simp
      rw [e1] at h7
      simp only [e0, h7, Sem.run_pure]
    · cases h
  · rename_i z n e h1 h2
    split at h
    · rename_i m h3
      replace h := bcond h
      obtain ⟨h0, h⟩ := h
      have hz := noTup_ok h0
      simp only [Option.map_eq_some_iff] at h
      obtain ⟨cs, h4, rfl⟩ := h
      obtain ⟨zv, h5, h6⟩ := run_zeV (ω := ω) (β := β) h1 w
      obtain ⟨ys, h7, h8⟩ := fillV_ok h4 hp (h6.cells hz)
      refine ⟨.agg (List.toArray ys), ?_, ys, rfl, h8⟩
      have e1 : (List.toArray zv.cells.toList) = zv.cells := by simp
      rw [e1] at h7
      simp only [Instr.build, Sem.run_bind, h5, Result.andThen_ok, und h2, run_szV h3, h7, Sem.run_pure]
    · cases h
  · cases h

/-! ### maps, assertions of types -/
def KeyR (ω : List Value) (β : List (Option B3)) : Option (Nat × V) → Option (Nat × Value) → Prop
  | none, r => r = none
  | some (j, v), r => ∃ x, r = some (j, x) ∧ Den ω β v x
theorem keyA_ok {d : TypeDesc} {k : V} {kv : Value} (dk : Den ω β k kv) : ∀ {es : List (V × V × Nat)} {l : List MapEntry} {i : Nat} {r : Option (Nat × V)}, keyA d k es i = some r → EsR ω β es l → ∃ r', Instr.findNow d kv l i = some r' ∧ KeyR ω β r r'
  | [], l, i, r, h, he => by have : l = [] := he; subst this; simp [keyA] at h; subst h; exact ⟨none, rfl, rfl⟩
  | (k', v, b) :: es, l, i, r, h, he => by
    obtain ⟨x, y, s, rfl, d1, d2, d3⟩ := he
    simp only [keyA] at h
    split at h
    · rename_i a c
      simp only [Den] at dk d1; obtain ⟨rfl, ha⟩ := dk; obtain ⟨rfl, hc⟩ := d1
      have e : (byt a == byt c) = strEq a c := by rw [beq_toListBytes, byt_list, byt_list, strEq_ok ha hc]
      cases hq : strEq a c with
      | true => rw [hq] at h; simp at h; subst h; exact ⟨some (i, y), by simp [Instr.findNow, Instr.sameNow, e, hq], y, rfl, d2⟩
      | false =>
        rw [hq] at h; simp at h
        obtain ⟨r', h1, h2⟩ := keyA_ok (by simpa only [Den] using ⟨rfl, ha⟩) h d3
        exact ⟨r', by simp [Instr.findNow, Instr.sameNow, e, hq, h1], h2⟩
    · rename_i k0 ka a kc c
      simp only [Den] at dk d1; subst dk; subst d1
      by_cases hk : ka = kc
      · subst hk
        simp only [decide_true, cond_true] at h
        cases hq : (a == c) with
        | true => rw [hq] at h; simp at h; subst h; exact ⟨some (i, y), by simp [Instr.findNow, Instr.sameNow, hq], y, rfl, d2⟩
        | false =>
          rw [hq] at h; simp at h
          obtain ⟨r', h1, h2⟩ := keyA_ok (kv := .int ka a) (by simp only [Den]) h d3
          exact ⟨r', by simp [Instr.findNow, Instr.sameNow, hq, h1], h2⟩
      · simp [hk] at h
    · cases h
theorem checkKey_ok {t : TypeId} {d : TypeDesc} {k : V} {kv : Value} {q : Bool} (h : simpleK d k = true) (dk : Den ω β k kv) (hu : Pr.underlying t = some d) (w : World) : (Instr.checkKey q 10000 t kv).run Pr w = .ok () w := by
  have key : ∀ n, (Instr.checkKey q (n + 1) t kv).run Pr w = .ok () w := by
    intro n
    unfold simpleK at h
    split at h
    · simp only [Den] at dk; obtain ⟨rfl, _⟩ := dk
      simp only [Instr.checkKey, Sem.run_bind, und hu, Result.andThen_ok, Sem.run_pure]
    · simp only [Den] at dk; subst dk
      simp only [Instr.checkKey, Sem.run_bind, und hu, Result.andThen_ok, Sem.run_pure]
    · cases h
  exact key 9999
theorem findKey_ok {t : TypeId} {d : TypeDesc} {k : V} {kv : Value} {es : List (V × V × Nat)} {l : List MapEntry} {r : Option (Nat × V)} (dk : Den ω β k kv) (h : keyA d k es 0 = some r) (he : EsR ω β es l) (hu : Pr.underlying t = some d) (w : World) :
    ∃ r', (Instr.findKey t kv l).run Pr w = .ok r' w ∧ KeyR ω β r r' := by
  obtain ⟨r', h1, h2⟩ := keyA_ok dk h he
  exact ⟨r', by simp [Instr.findKey, und hu, h1], h2⟩

theorem lookA_ok (hw : WR B ω H nx β w) {t : TypeId} {m k r : V} {a kv : Value} {ok : Bool} (h : lookA Pr H t m k ok = some r) (dm : Den ω β m a) (dk : Den ω β k kv) : ∃ z, (Instr.lookup t a kv ok).run Pr w = .ok z w ∧ Den ω β r z := by
  unfold lookA at h
  split at h
  · rename_i kt et h1
    split at h
    · rename_i d es h2 h3
      replace h := bcond h
      obtain ⟨hs, h⟩ := h
      have key : ∀ (l : List MapEntry), EsR ω β es l → ∃ ro z, (Instr.findKey kt kv l).run Pr w = .ok ro w ∧ Den ω β r z ∧ ((∃ j v, ro = some (j, v) ∧ z = if ok then .tuple #[v, .bool true] else v) ∨ (ro = none ∧ ∃ zv, (zeroValue et).run Pr w = .ok zv w ∧ z = if ok then .tuple #[zv, .bool false] else zv)) := by
        intro l hl
        split at h
        · rename_i j v hk
          obtain ⟨r', h4, h5⟩ := findKey_ok dk hk hl h2 w
          obtain ⟨x, rfl, dx⟩ := h5
          refine ⟨_, if ok then .tuple #[x, .bool true] else x, h4, ?_, .inl ⟨j, x, rfl, rfl⟩⟩
          cases ok <;> simp at h <;> subst h
          · exact dx
          · exact ⟨[x, .bool true], rfl, by simp [DenL, Den, dx]⟩
        · rename_i hk
          obtain ⟨r', h4, h5⟩ := findKey_ok dk hk hl h2 w
          have : r' = none := h5
          subst this
          simp only [Option.map_eq_some_iff] at h
          obtain ⟨z, hz, rfl⟩ := h
          obtain ⟨zv, h6, h7⟩ := run_zeV (ω := ω) (β := β) hz w
          refine ⟨_, if ok then .tuple #[zv, .bool false] else zv, h4, ?_, .inr ⟨rfl, zv, h6, rfl⟩⟩
          cases ok
          · exact h7
          · exact ⟨[zv, .bool false], rfl, by simp [DenL, Den, h7]⟩
        · cases h
      split at h3
      · simp only [Den] at dm; subst dm
        simp only [Option.some.injEq] at h3; subst h3
        obtain ⟨ro, z, h4, h5, hc⟩ := key [] rfl
        refine ⟨z, ?_, h5⟩
        rcases hc with ⟨j, v, rfl, rfl⟩ | ⟨rfl, zv, h6, rfl⟩
        · simp only [Instr.lookup, Sem.run_bind, und h1, Result.andThen_ok, Sem.run_pure, checkKey_ok hs dk h2 w, h4]
        · simp only [Instr.lookup, Sem.run_bind, und h1, Result.andThen_ok, Sem.run_pure, checkKey_ok hs dk h2 w, h4, h6]
      · rename_i i
        simp only [Den] at dm; obtain ⟨b, f, n, hb, rfl⟩ := dm
        split at h3
        · rename_i es' c h6
          simp only [Option.some.injEq] at h3; subst h3
          obtain ⟨l, h7, h8⟩ := hw.mapAt h6 hb
          obtain ⟨ro, z, h4, h5, hc⟩ := key l h8
          refine ⟨z, ?_, h5⟩
          rcases hc with ⟨j, v, rfl, rfl⟩ | ⟨rfl, zv, h9, rfl⟩
          · simp only [Instr.lookup, Sem.run_bind, und h1, Result.andThen_ok, run_getMap h7, Sem.run_pure, checkKey_ok hs dk h2 w, h4]
          · simp only [Instr.lookup, Sem.run_bind, und h1, Result.andThen_ok, run_getMap h7, Sem.run_pure, checkKey_ok hs dk h2 w, h4, h9]
        · cases h3
      · cases h3
    · cases h
  · cases h

theorem tasA_ok {t xt : TypeId} {v r : V} {a : Value} {ok : Bool} (h : tasA Pr t ok v = some r) (dv : Den ω β v a) (w : World) : ∃ z, (Instr.typeAssert a xt t ok).run Pr w = .ok z w ∧ Den ω β r z := by
  unfold tasA at h
  split at h
  · rename_i want h1
    simp only [Den] at dv; subst dv
    obtain ⟨h2, h3⟩ := bcond h
    subst h2
    simp only [Option.map_eq_some_iff] at h3
    obtain ⟨z, hz, rfl⟩ := h3
    obtain ⟨zv, h6, h7⟩ := run_zeV (ω := ω) (β := β) hz w
    exact ⟨.tuple #[zv, .bool false], by simp [Instr.typeAssert, und h1, h6], [zv, .bool false], rfl, by simp [DenL, Den, h7]⟩
  · rename_i want d u h1
    simp only [Den] at dv; obtain ⟨y, rfl, dy⟩ := dv
    split at h
    · rename_i i hi
      have hti : (typeInfo d).run Pr w = .ok i w := by simp [typeInfo, hi]
      split at h
      · rename_i hm
        cases ok <;> simp at h <;> subst h
        · exact ⟨.iface d y, by simp [Instr.typeAssert, und h1, hti, hm], y, rfl, dy⟩
        · exact ⟨.tuple #[.iface d y, .bool true], by simp [Instr.typeAssert, und h1, hti, hm], [.iface d y, .bool true], rfl, by simp [DenL, Den, dy]⟩
      · rename_i mm hm
        obtain ⟨h2, h3⟩ := bcond h
        subst h2
        simp only [Option.map_eq_some_iff] at h3
        obtain ⟨z, hz, rfl⟩ := h3
        obtain ⟨zv, h6, h7⟩ := run_zeV (ω := ω) (β := β) hz w
        exact ⟨.tuple #[zv, .bool false], by simp [Instr.typeAssert, und h1, hti, hm, h6], [zv, .bool false], rfl, by simp [DenL, Den, h7]⟩
    · cases h
  · rename_i d hno h1
    simp only [Den] at dv; subst dv
    obtain ⟨h2, h3⟩ := bcond h
    subst h2
    simp only [Option.map_eq_some_iff] at h3
    obtain ⟨z, hz, rfl⟩ := h3
    obtain ⟨zv, h6, h7⟩ := run_zeV (ω := ω) (β := β) hz w
    refine ⟨.tuple #[zv, .bool false], ?_, [zv, .bool false], rfl, by simp [DenL, Den, h7]⟩
    cases d <;> first | (simp [Instr.typeAssert, und h1, h6]; done) | (exact absurd rfl (hno _))
  · rename_i d0 d u hno h1
    simp only [Den] at dv; obtain ⟨y, rfl, dy⟩ := dv
    by_cases hd : d = t
    · subst hd
      simp only [Nat.beq_refl, cond_true, Option.some.injEq] at h; subst h
      cases ok
      · refine ⟨y, ?_, dy⟩
        cases d0 <;> first | (simp [Instr.typeAssert, und h1]; done) | (exact absurd rfl (hno _))
      · refine ⟨.tuple #[y, .bool true], ?_, [y, .bool true], rfl, by simp [DenL, Den, dy]⟩
        cases d0 <;> first | (simp [Instr.typeAssert, und h1]; done) | (exact absurd rfl (hno _))
    · rw [beq_ne hd, cond_false] at h
      obtain ⟨h2, h3⟩ := bcond h
      subst h2
      simp only [Option.map_eq_some_iff] at h3
      obtain ⟨z, hz, rfl⟩ := h3
      obtain ⟨zv, h6, h7⟩ := run_zeV (ω := ω) (β := β) hz w
      refine ⟨.tuple #[zv, .bool false], ?_, [zv, .bool false], rfl, by simp [DenL, Den, h7]⟩
      cases d0 <;> first | (simp [Instr.typeAssert, und h1, hd, h6]; done) | (exact absurd rfl (hno _))
  · cases h

end Go.Proofs.YtbgkljpbemehiaaGreat.Sx
