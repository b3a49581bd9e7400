/- What a run with known values says of a world: values, blocks, slots. No condition. -/
import Derived.Test.YtbgkljpbemehiaaGreatV0
import Derived.Test.YtbgkljpbemehiaaGreatS2
namespace Go.Proofs.YtbgkljpbemehiaaGreat.Sx

abbrev B3 := Nat × Nat × Nat
/-- where a block of ours lies, if it is there -/
def bt (β : List (Option B3)) (i : Nat) : Option B3 := (β[i]?).join
@[simp] theorem bt_last (β : List (Option B3)) (x : B3) : bt (β ++ [some x]) β.length = some x := by simp [bt]
theorem bt_lt {β : List (Option B3)} {i : Nat} {x : B3} (h : bt β i = some x) : i < β.length := by
  unfold bt at h
  cases e : β[i]? with
  | none => rw [e] at h; cases h
  | some y => exact (List.getElem?_eq_some_iff.1 e).1
theorem bt_old {β : List (Option B3)} {i : Nat} {y : Option B3} (h : i < β.length) : bt (β ++ [y]) i = bt β i := by
  unfold bt; rw [List.getElem?_append_left h]
theorem bt_set {β : List (Option B3)} {i j : Nat} {y : Option B3} (h : i < β.length) : bt (β.set i y) j = if j = i then y else bt β j := by
  unfold bt
  rw [List.getElem?_set]
  by_cases e : i = j
  · subst e; simp [h]
  · rw [if_neg e, if_neg (Ne.symm e)]
def byt (s : List Nat) : ByteArray := ⟨(s.map UInt8.ofNat).toArray⟩

mutual
def Den (ω : List Value) (β : List (Option B3)) : V → Value → Prop
  | .bool b, x => x = .bool b
  | .int k n, x => x = .int k n
  | .str s, x => x = .string (byt s) ∧ ∀ b ∈ s, b < 256
  | .np, x => x = .pointer none
  | .ptr i o, x => ∃ b f n, bt β i = some (b, f, n) ∧ x = .pointer (some ⟨b, f + o, none⟩)
  | .nsl, x => x = .slice none 0 0
  | .sl i o l c, x => ∃ b f n, bt β i = some (b, f, n) ∧ x = .slice (some ⟨b, f + o, none⟩) l c ∧ l ≤ c
  | .su i o l z, x => ∃ b f n c, bt β i = some (b, f, n) ∧ x = .slice (some ⟨b, f + o, none⟩) l c ∧ l ≤ c ∧ f + o + c * z ≤ n
  | .se, x => ∃ a c, x = .slice (some a) 0 c
  | .nmap, x => x = .map none
  | .map i, x => ∃ b f n, bt β i = some (b, f, n) ∧ x = .map (some b)
  | .nfn, x => x = .nilFunc
  | .fn f a c, x => ∃ va vc, x = .func f (List.toArray va) (List.toArray vc) ∧ DenL ω β a va ∧ DenL ω β c vc
  | .yl i, x => ∃ b f n, bt β i = some (b, f, n) ∧ x = .func (.yield b) #[] #[]
  | .nif, x => x = .nilIface
  | .ifc t v, x => ∃ y, x = .iface t y ∧ Den ω β v y
  | .agg cs, x => ∃ xs, x = .agg (List.toArray xs) ∧ DenL ω β cs xs
  | .tup cs, x => ∃ xs, x = .tuple (List.toArray xs) ∧ DenL ω β cs xs
  | .opq i, x => ω[i]? = some x ∧ x.oneCell' = true
def DenL (ω : List Value) (β : List (Option B3)) : List V → List Value → Prop
  | [], xs => xs = []
  | v :: vs, xs => ∃ y ys, xs = y :: ys ∧ Den ω β v y ∧ DenL ω β vs ys
end

def Le (β β' : List (Option B3)) : Prop := ∀ (i : Nat) x, bt β i = some x → bt β' i = some x
theorem Le.refl (β : List (Option B3)) : Le β β := fun _ _ h => h
theorem Le.trans {a b c : List (Option B3)} (h : Le a b) (k : Le b c) : Le a c := fun i x e => k i x (h i x e)
theorem Le.snoc (β : List (Option B3)) (x : Option B3) : Le β (β ++ [x]) := fun i y h => by
  rw [bt_old (bt_lt h)]; exact h
/-- the same, and what had no place has none yet (but for new numbers) -/
structure LeA (β β' : List (Option B3)) : Prop where
  le : Le β β'
  len : β.length ≤ β'.length
  res : ∀ i, i < β.length → bt β i = none → bt β' i = none
theorem LeA.refl (β : List (Option B3)) : LeA β β := ⟨Le.refl _, Nat.le_refl _, fun _ _ h => h⟩
theorem LeA.trans {a b c : List (Option B3)} (h : LeA a b) (k : LeA b c) : LeA a c := ⟨h.le.trans k.le, Nat.le_trans h.len k.len, fun i hi e => k.res i (Nat.lt_of_lt_of_le hi h.len) (h.res i hi e)⟩
theorem LeA.snoc (β : List (Option B3)) (x : Option B3) : LeA β (β ++ [x]) := ⟨Le.snoc _ _, by simp, fun i hi e => by rw [bt_old hi]; exact e⟩
theorem Le.set {β : List (Option B3)} {i : Nat} (x : Option B3) (hi : i < β.length) (h : bt β i = none) : Le β (β.set i x) := fun j y e => by
  rw [bt_set hi, if_neg]
  · exact e
  · rintro rfl; rw [h] at e; cases e

variable {ω : List Value} {β β' : List (Option B3)}
mutual
theorem Den.mono (h : Le β β') : ∀ (v : V) {x : Value}, Den ω β v x → Den ω β' v x
  | .bool _, _, d | .int _ _, _, d | .str _, _, d | .np, _, d | .nsl, _, d | .se, _, d | .nmap, _, d | .nfn, _, d | .nif, _, d | .opq _, _, d => by simpa only [Den] using d
  | .ptr i o, x, d => by simp only [Den] at d ⊢; obtain ⟨b, f, n, e, r⟩ := d; exact ⟨b, f, n, h _ _ e, r⟩
  | .sl i o l c, x, d => by simp only [Den] at d ⊢; obtain ⟨b, f, n, e, r⟩ := d; exact ⟨b, f, n, h _ _ e, r⟩
  | .su i o l z, x, d => by simp only [Den] at d ⊢; obtain ⟨b, f, n, c, e, r⟩ := d; exact ⟨b, f, n, c, h _ _ e, r⟩
  | .map i, x, d => by simp only [Den] at d ⊢; obtain ⟨b, f, n, e, r⟩ := d; exact ⟨b, f, n, h _ _ e, r⟩
  | .yl i, x, d => by simp only [Den] at d ⊢; obtain ⟨b, f, n, e, r⟩ := d; exact ⟨b, f, n, h _ _ e, r⟩
  | .fn f a c, x, d => by simp only [Den] at d ⊢; obtain ⟨va, vc, e, r, s⟩ := d; exact ⟨va, vc, e, DenL.mono h a r, DenL.mono h c s⟩
  | .ifc t v, x, d => by simp only [Den] at d ⊢; obtain ⟨y, e, r⟩ := d; exact ⟨y, e, Den.mono h v r⟩
  | .agg cs, x, d => by simp only [Den] at d ⊢; obtain ⟨y, e, r⟩ := d; exact ⟨y, e, DenL.mono h cs r⟩
  | .tup cs, x, d => by simp only [Den] at d ⊢; obtain ⟨y, e, r⟩ := d; exact ⟨y, e, DenL.mono h cs r⟩
theorem DenL.mono (h : Le β β') : ∀ (l : List V) {xs : List Value}, DenL ω β l xs → DenL ω β' l xs
  | [], xs, d => by simpa only [DenL] using d
  | v :: vs, xs, d => by simp only [DenL] at d ⊢; obtain ⟨y, ys, e, r, s⟩ := d; exact ⟨y, ys, e, Den.mono h v r, DenL.mono h vs s⟩
end

theorem DenL.nil_iff {xs : List Value} : DenL ω β [] xs ↔ xs = [] := by simp [DenL]
theorem DenL.cons_iff {v : V} {vs : List V} {xs : List Value} : DenL ω β (v :: vs) xs ↔ ∃ y ys, xs = y :: ys ∧ Den ω β v y ∧ DenL ω β vs ys := by simp [DenL]
theorem DenL.length : ∀ {l : List V} {xs : List Value}, DenL ω β l xs → xs.length = l.length
  | [], xs, h => by rw [DenL.nil_iff.1 h]; rfl
  | v :: vs, xs, h => by obtain ⟨y, ys, rfl, _, r⟩ := DenL.cons_iff.1 h; simp [DenL.length r]
theorem DenL.get : ∀ {l : List V} {xs : List Value} {i : Nat} {v : V}, DenL ω β l xs → l[i]? = some v → ∃ x, xs[i]? = some x ∧ Den ω β v x
  | [], _, _, _, _, e => by simp at e
  | u :: vs, xs, i, v, h, e => by
    obtain ⟨y, ys, rfl, d, r⟩ := DenL.cons_iff.1 h
    cases i with
    | zero => simp at e; subst e; exact ⟨y, rfl, d⟩
    | succ i => simp at e; obtain ⟨x, h1, h2⟩ := DenL.get r e; exact ⟨x, by simpa using h1, h2⟩
theorem DenL.append : ∀ {l m : List V} {xs ys : List Value}, DenL ω β l xs → DenL ω β m ys → DenL ω β (l ++ m) (xs ++ ys)
  | [], m, xs, ys, h, k => by rw [DenL.nil_iff.1 h]; exact k
  | v :: vs, m, xs, ys, h, k => by
    obtain ⟨y, zs, rfl, d, r⟩ := DenL.cons_iff.1 h
    exact DenL.cons_iff.2 ⟨y, zs ++ ys, rfl, d, DenL.append r k⟩
theorem DenL.drop : ∀ {l : List V} {xs : List Value} (n : Nat), DenL ω β l xs → DenL ω β (l.drop n) (xs.drop n)
  | l, xs, 0, h => h
  | [], xs, n + 1, h => by rw [DenL.nil_iff.1 h]; simp [DenL]
  | v :: vs, xs, n + 1, h => by obtain ⟨y, ys, rfl, _, r⟩ := DenL.cons_iff.1 h; exact DenL.drop n r
theorem DenL.take : ∀ {l : List V} {xs : List Value} (n : Nat), DenL ω β l xs → DenL ω β (l.take n) (xs.take n)
  | l, xs, 0, h => by simp [DenL]
  | [], xs, n + 1, h => by rw [DenL.nil_iff.1 h]; simp [DenL]
  | v :: vs, xs, n + 1, h => by
    obtain ⟨y, ys, rfl, d, r⟩ := DenL.cons_iff.1 h
    exact DenL.cons_iff.2 ⟨y, ys.take n, rfl, d, DenL.take n r⟩

theorem Den.one {v : V} {x : Value} (h : Den ω β v x) (h1 : v.one = true) : x.oneCell' = true := by
  cases v with
  | agg => cases h1
  | tup => cases h1
  | opq => simp only [Den] at h; exact h.2
  | sl | ptr | map | yl => simp only [Den] at h; obtain ⟨b, f, n, _, h⟩ := h; first | (subst h; rfl) | (obtain ⟨rfl, _⟩ := h; rfl)
  | su => simp only [Den] at h; obtain ⟨b, f, n, c, _, rfl, _⟩ := h; rfl
  | se => simp only [Den] at h; obtain ⟨a, c, rfl⟩ := h; rfl
  | fn => simp only [Den] at h; obtain ⟨a, c, rfl, _⟩ := h; rfl
  | ifc => simp only [Den] at h; obtain ⟨a, rfl, _⟩ := h; rfl
  | str => simp only [Den] at h; obtain ⟨rfl, _⟩ := h; rfl
  | _ => simp only [Den] at h; subst h; rfl
theorem cells_of_one {x : Value} (h : x.oneCell' = true) : x.cells = #[x] := by
  cases x <;> first | rfl | (exfalso; simp [Value.oneCell'] at h)
theorem Den.cells {v : V} {x : Value} (h : Den ω β v x) (hv : ∀ l, v ≠ .tup l) : DenL ω β v.cells x.cells.toList := by
  cases hv' : v with
  | agg cs => subst hv'; simp only [Den] at h; obtain ⟨xs, rfl, r⟩ := h; exact r
  | tup l => exact absurd hv' (hv l)
  | _ => subst hv'; rw [cells_of_one (h.one rfl)]; exact DenL.cons_iff.2 ⟨x, [], rfl, h, DenL.nil_iff.2 rfl⟩
theorem noTup_ok {v : V} (h : v.noTup = true) : ∀ l, v ≠ .tup l := by rintro l rfl; cases h
theorem allOne_ok : ∀ {l : List V} {xs : List Value}, allOne l = true → DenL ω β l xs → ∀ x ∈ xs, x.oneCell' = true
  | [], xs, _, h, x, hx => by rw [DenL.nil_iff.1 h] at hx; cases hx
  | v :: vs, xs, a, h, x, hx => by
    simp only [allOne, Bool.and_eq_true] at a
    obtain ⟨y, ys, rfl, d, r⟩ := DenL.cons_iff.1 h
    rcases List.mem_cons.1 hx with rfl | hx
    · exact d.one a.1
    · exact allOne_ok a.2 r x hx
theorem allOne_cells {v : V} (h : allOne v.cells = true) : ∀ l, v ≠ .tup l := by
  rintro l rfl; simp [V.cells, allOne, V.one] at h

/-! ### what is kept by number -/
theorem Tr.get_nil {α : Type} (n : Nat) : (Tr.nil : Tr α).get n = none := rfl
theorem rec_cond {α : Type} (b : Bool) (x y : α) : (Bool.rec (motive := fun _ => α) x y b) = cond b y x := by cases b <;> rfl
theorem Tr.get_node {α : Type} (l r : Tr α) (v : Option α) (n : Nat) : (Tr.node l v r).get n = if n = 0 then v else if n % 2 = 1 then l.get (n / 2) else r.get (n / 2 - 1) := by
  show (Bool.rec (motive := fun _ => Option α) (Bool.rec (motive := fun _ => Option α) (r.get (Nat.sub (Nat.div n 2) 1)) (l.get (Nat.div n 2)) (Nat.beq (Nat.mod n 2) 1)) v (Nat.beq n 0)) = _
  rw [rec_cond, rec_cond]
  by_cases h : n = 0
  · subst h; rfl
  · have : Nat.beq n 0 = false := by rw [Bool.eq_false_iff]; intro e; exact h (Nat.eq_of_beq_eq_true e)
    rw [this, cond_false, if_neg h]
    by_cases h2 : n % 2 = 1
    · rw [if_pos h2, show Nat.mod n 2 = 1 from h2]; rfl
    · have : Nat.beq (Nat.mod n 2) 1 = false := by rw [Bool.eq_false_iff]; intro e; exact h2 (Nat.eq_of_beq_eq_true e)
      rw [this, cond_false, if_neg h2]; rfl
theorem beq_ne {n m : Nat} (h : n ≠ m) : Nat.beq n m = false := by rw [Bool.eq_false_iff]; intro e; exact h (Nat.eq_of_beq_eq_true e)
theorem Tr.get_putN {α : Type} (x : Option α) : ∀ (k n m : Nat) (y : α), (Tr.putN k n x).get m = some y → m = n ∧ x = some y
  | 0, n, m, y, h => by simp [Tr.putN, Tr.get] at h
  | k + 1, n, m, y, h => by
    simp only [Tr.putN] at h
    by_cases h0 : n = 0
    · subst h0
      simp only [Nat.beq_refl, cond_true, Tr.get_node, Tr.get_nil] at h
      split at h
      · rename_i e; exact ⟨e, h⟩
      · split at h <;> cases h
    · rw [beq_ne h0, cond_false] at h
      by_cases h1 : n % 2 = 1
      · rw [h1] at h
        simp only [Nat.beq_refl, cond_true, Tr.get_node, Tr.get_nil] at h
        split at h
        · cases h
        · split at h
          · rename_i e1 e2
            obtain ⟨e3, e4⟩ := Tr.get_putN x k _ _ _ h
            exact ⟨by omega, e4⟩
          · cases h
      · rw [beq_ne h1, cond_false] at h
        simp only [Tr.get_node, Tr.get_nil] at h
        split at h
        · cases h
        · split at h
          · cases h
          · rename_i e1 e2
            obtain ⟨e3, e4⟩ := Tr.get_putN x k _ _ _ h
            exact ⟨by omega, e4⟩
theorem Tr.get_put {α : Type} (x : Option α) : ∀ (t : Tr α) (n m : Nat) (y : α), (t.put n x).get m = some y → (m = n ∧ x = some y) ∨ (m ≠ n ∧ t.get m = some y)
  | .nil, n, m, y, h => .inl (Tr.get_putN x 24 n m y h)
  | .node l v r, n, m, y, h => by
    have hp : (Tr.node l v r).put n x = (bif Nat.beq n 0 then .node l x r else bif Nat.beq (n % 2) 1 then .node (l.put (n / 2) x) v r else .node l v (r.put (n / 2 - 1) x)) := by
      show (Bool.rec (motive := fun _ => Tr α) (Bool.rec (motive := fun _ => Tr α) (.node l v (r.put (Nat.sub (Nat.div n 2) 1) x)) (.node (l.put (Nat.div n 2) x) v r) (Nat.beq (Nat.mod n 2) 1)) (.node l x r) (Nat.beq n 0)) = _
      rw [rec_cond, rec_cond]; rfl
    rw [hp] at h
    by_cases h0 : n = 0
    · subst h0
      simp only [Nat.beq_refl, cond_true, Tr.get_node] at h
      split at h
      · rename_i e; exact .inl ⟨e, h⟩
      · rename_i e; exact .inr ⟨e, by rw [Tr.get_node, if_neg e]; exact h⟩
    · rw [beq_ne h0, cond_false] at h
      by_cases h1 : n % 2 = 1
      · rw [h1] at h
        simp only [Nat.beq_refl, cond_true, Tr.get_node] at h ⊢
        split at h
        · rename_i e; exact .inr ⟨by omega, by rw [if_pos e]; exact h⟩
        · rename_i e
          split at h
          · rename_i e2
            rcases Tr.get_put x l _ _ _ h with ⟨e3, e4⟩ | ⟨e3, e4⟩
            · exact .inl ⟨by omega, e4⟩
            · exact .inr ⟨by rintro rfl; exact e3 rfl, by rw [if_neg e, if_pos e2]; exact e4⟩
          · rename_i e2
            exact .inr ⟨by rintro rfl; exact e2 h1, by rw [if_neg e, if_neg e2]; exact h⟩
      · rw [beq_ne h1, cond_false] at h
        simp only [Tr.get_node] at h ⊢
        split at h
        · rename_i e; exact .inr ⟨by omega, by rw [if_pos e]; exact h⟩
        · rename_i e
          split at h
          · rename_i e2
            exact .inr ⟨by rintro rfl; exact h1 e2, by rw [if_neg e, if_pos e2]; exact h⟩
          · rename_i e2
            rcases Tr.get_put x r _ _ _ h with ⟨e3, e4⟩ | ⟨e3, e4⟩
            · exact .inl ⟨by omega, e4⟩
            · exact .inr ⟨by rintro rfl; exact e3 rfl, by rw [if_neg e, if_neg e2]; exact e4⟩

/-! ### blocks -/
def TmR (ω : List Value) (β : List (Option B3)) (tm : Tr V) (tmps : Array Value) : Prop := ∀ t v, tm.get t = some v → Den ω β v (tmps.getD t undef)
theorem TmR.mono {tm : Tr V} {tmps : Array Value} (h : TmR ω β tm tmps) (hl : Le β β') : TmR ω β' tm tmps := fun t v e => Den.mono hl v (h t v e)
def DvR (ω : List Value) (β : List (Option B3)) : DV → Deferred → Prop
  | .mark i, d => ∃ b f n, bt β i = some (b, f, n) ∧ d = { target := .collected b, args := #[] }
  | .fn f cap args, d => ∃ vc va, d = { target := .fn (.func f) (List.toArray vc), args := List.toArray va } ∧ DenL ω β cap vc ∧ DenL ω β args va
theorem DvR.mono {a : DV} {d : Deferred} (h : DvR ω β a d) (hl : Le β β') : DvR ω β' a d := by
  cases a with
  | mark i => obtain ⟨b, f, n, e, r⟩ := h; exact ⟨b, f, n, hl _ _ e, r⟩
  | fn f c as => obtain ⟨vc, va, e, r, s⟩ := h; exact ⟨vc, va, e, DenL.mono hl _ r, DenL.mono hl _ s⟩
def DvL (ω : List Value) (β : List (Option B3)) : List DV → List Deferred → Prop
  | [], ds => ds = []
  | a :: as, ds => ∃ d r, ds = d :: r ∧ DvR ω β a d ∧ DvL ω β as r
theorem DvL.mono (hl : Le β β') : ∀ {as : List DV} {ds : List Deferred}, DvL ω β as ds → DvL ω β' as ds
  | [], _, h => h
  | _ :: _, _, ⟨d, r, e, x, y⟩ => ⟨d, r, e, x.mono hl, DvL.mono hl y⟩
theorem DvL.append : ∀ {as bs : List DV} {ds es : List Deferred}, DvL ω β as ds → DvL ω β bs es → DvL ω β (as ++ bs) (ds ++ es)
  | [], _, ds, _, h, k => by have : ds = [] := h; subst this; exact k
  | _ :: _, _, _, _, ⟨d, r, e, x, y⟩, k => by subst e; exact ⟨d, _, rfl, x, DvL.append y k⟩
def EsR (ω : List Value) (β : List (Option B3)) : List (V × V × Nat) → List MapEntry → Prop
  | [], es => es = []
  | (k, v, b) :: l, es => ∃ x y r, es = { key := x, val := y, born := b } :: r ∧ Den ω β k x ∧ Den ω β v y ∧ EsR ω β l r
theorem EsR.mono (hl : Le β β') : ∀ {l : List (V × V × Nat)} {es : List MapEntry}, EsR ω β l es → EsR ω β' l es
  | [], _, h => h
  | _ :: _, _, ⟨x, y, r, e, a, b, c⟩ => ⟨x, y, r, e, Den.mono hl _ a, Den.mono hl _ b, EsR.mono hl c⟩

def HOR (ω : List Value) (β : List (Option B3)) (f n : Nat) : HO → Obj → Prop
  | .cells t cs, ob => ∃ all fr, ob = .cells (List.toArray all) t fr ∧ all.length = n ∧ f + cs.length ≤ n ∧ ufz fr n ∧ DenL ω β cs ((all.drop f).take cs.length)
  | .map es c, ob => ∃ l, ob = .map (List.toArray l) c ∧ EsR ω β es l
  | .iter m s seen st, ob => f = 0 ∧ match m with
    | none => ob = .mapIter none s seen.toArray st
    | some i => ∃ b f n, bt β i = some (b, f, n) ∧ ob = .mapIter (some b) s seen.toArray st
  | .loop st pend fn nt tm params asg body df, ob => ∃ tmps b f n, bt β df = some (b, f, n) ∧ ob = .loop { state := st, pending := pend, fn := fn, tmps := tmps, params := params.toArray, assign := asg, body := body, defers := b } ∧ tmps.size = nt ∧ TmR ω β tm tmps
  | .dfr none, ob => ob = .deferred none
  | .dfr (some l), ob => ∃ ds, ob = .deferred (some ds) ∧ DvL ω β l ds
  | .pcells t cs, ob => ∃ all fr, ob = .cells (List.toArray all) t fr ∧ all.length = n ∧ f + cs.length ≤ n ∧ ufz fr n ∧ DenL ω β cs ((all.drop f).take cs.length)
  | .pmap, ob => ob = .map #[] 0
theorem HOR.mono (hl : Le β β') {f n : Nat} {o : HO} {ob : Obj} (h : HOR ω β f n o ob) : HOR ω β' f n o ob := by
  cases o with
  | cells t cs => obtain ⟨all, fr, a, b, c, d, e⟩ := h; exact ⟨all, fr, a, b, c, d, DenL.mono hl _ e⟩
  | map es c => obtain ⟨l, a, b⟩ := h; exact ⟨l, a, b.mono hl⟩
  | iter m s seen st =>
    cases m with
    | none => exact h
    | some i => obtain ⟨h0, b, f, n, e, r⟩ := h; exact ⟨h0, b, f, n, hl _ _ e, r⟩
  | loop => obtain ⟨tmps, b, f, n, e, r, s, t⟩ := h; exact ⟨tmps, b, f, n, hl _ _ e, r, s, t.mono hl⟩
  | dfr c =>
    cases c with
    | none => exact h
    | some l => obtain ⟨ds, a, b⟩ := h; exact ⟨ds, a, b.mono hl⟩
  | pcells t cs => obtain ⟨all, fr, a, b, c, d, e⟩ := h; exact ⟨all, fr, a, b, c, d, DenL.mono hl _ e⟩
  | pmap => exact h
theorem HOR.set {f n : Nat} {o : HO} {ob : Obj} (h : HOR ω β f n o ob) : HOR ω β f n o.set ob := by
  cases o with
  | pmap => exact ⟨[], h, rfl⟩
  | _ => exact h
theorem NB.po_ok {f n : Nat} {b : NB} {ob : Obj} (h : HOR ω β f n b.ho ob) : HOR ω β f n b.po ob := by
  cases b with
  | cells t cs => exact h
  | map => obtain ⟨l, rfl, hl⟩ := h; have : l = [] := hl; subst this; rfl

structure WR (B : World) (ω : List Value) (H : HV) (nx : Nat) (β : List (Option B3)) (w : World) : Prop where
  os : w.os = B.os
  tape : w.tape = B.tape
  output : w.output = B.output
  size : B.heap.size ≤ w.heap.size
  old : ∀ b, b < B.heap.size → w.heap[b]? = B.heap[b]?
  new : ∀ (i b f n : Nat), bt β i = some (b, f, n) → B.heap.size ≤ b ∧ b < w.heap.size
  len : β.length = nx
  obj : ∀ (i : Nat) o (b f n : Nat), H.get i = some o → bt β i = some (b, f, n) → ∃ ob, w.heap[b]? = some ob ∧ HOR ω β f n o ob
  ex : ∀ i o, H.get i = some o → o.sure = true → ∃ x, bt β i = some x
  inj : ∀ i j o o' b f n f' n', H.get i = some o → H.get j = some o' → bt β i = some (b, f, n) → bt β j = some (b, f', n') → i = j

variable {B : World} {H : HV} {nx : Nat} {w : World}

theorem WR.at (h : WR B ω H nx β w) {i : Nat} {o : HO} {b f n : Nat} (e : H.get i = some o) (hb : bt β i = some (b, f, n)) : ∃ ob, w.heap[b]? = some ob ∧ HOR ω β f n o ob := by
  exact h.obj i o b f n e hb
theorem clV_ok {i : Nat} {t : TypeId} {cs : List V} (h : clV H i = some (t, cs)) : H.get i = some (.cells t cs) := by
  unfold clV at h
  split at h
  · rename_i e; simp at h; obtain ⟨rfl, rfl⟩ := h; exact e
  · cases h
theorem WR.cells (h : WR B ω H nx β w) {i : Nat} {t : TypeId} {cs : List V} {b f n : Nat} (e : H.get i = some (.cells t cs)) (hb : bt β i = some (b, f, n)) :
    ∃ all fr, w.heap[b]? = some (.cells (List.toArray all) t fr) ∧ all.length = n ∧ f + cs.length ≤ n ∧ ufz fr n ∧ DenL ω β cs ((all.drop f).take cs.length) := by
  obtain ⟨ob, h1, h2⟩ := h.at e hb
  obtain ⟨all, fr, rfl, a, b, c, d⟩ := h2
  exact ⟨all, fr, h1, a, b, c, d⟩
theorem WR.drawn (h : WR B ω H nx β w) (n : Nat) : WR B ω H nx β { w with drawn := n } := ⟨h.os, h.tape, h.output, h.size, h.old, h.new, h.len, h.obj, h.ex, h.inj⟩
/-- a block that is there is there for sure -/
theorem WR.set (h : WR B ω H nx β w) {i : Nat} {o : HO} {x : B3} (e : H.get i = some o) (hb : bt β i = some x) : WR B ω (H.put i (some o.set)) nx β w := by
  refine ⟨h.os, h.tape, h.output, h.size, h.old, h.new, h.len, fun j p b f n e2 hb2 => ?_, fun j p e2 hs => ?_, fun j k p q b f n f' n' e1 e2 => ?_⟩
  · rcases Tr.get_put _ _ _ _ _ e2 with ⟨rfl, e3⟩ | ⟨_, e3⟩
    · cases e3
      obtain ⟨ob, h1, h2⟩ := h.obj _ _ b f n e hb2
      exact ⟨ob, h1, h2.set⟩
    · exact h.obj j p b f n e3 hb2
  · rcases Tr.get_put _ _ _ _ _ e2 with ⟨rfl, e3⟩ | ⟨_, e3⟩
    · exact ⟨_, hb⟩
    · exact h.ex j p e3 hs
  · have g : ∀ {j : Nat} {p : HO}, (H.put i (some o.set)).get j = some p → ∃ q, H.get j = some q := by
      intro j p e2
      rcases Tr.get_put _ _ _ _ _ e2 with ⟨rfl, _⟩ | ⟨_, e3⟩
      · exact ⟨_, e⟩
      · exact ⟨_, e3⟩
    obtain ⟨p', e1'⟩ := g e1
    obtain ⟨q', e2'⟩ := g e2
    exact h.inj j k p' q' b f n f' n' e1' e2'
theorem WR.drew (h : WR B ω H nx β w) : WR B ω H nx β w.drew := h.drawn _

theorem get_at {cs : List V} {all : List Value} {f o : Nat} {v : V} (h : DenL ω β cs ((all.drop f).take cs.length)) (e : cs[o]? = some v) : ∃ x, all[f + o]? = some x ∧ Den ω β v x := by
  obtain ⟨x, h1, h2⟩ := h.get e
  have hlt := (List.getElem?_eq_some_iff.1 e).1
  rw [List.getElem?_take_of_lt hlt, List.getElem?_drop] at h1
  exact ⟨x, h1, h2⟩
theorem ldV_at {cs : List V} {all : List Value} {f : Nat} (h : DenL ω β cs ((all.drop f).take cs.length)) : ∀ {n o : Nat} {vs : List V}, ldV cs o n = some vs → ∃ xs, ldn all (f + o) n = some xs ∧ DenL ω β vs xs
  | 0, o, vs, e => by simp [ldV] at e; subst e; exact ⟨[], rfl, DenL.nil_iff.2 rfl⟩
  | n + 1, o, vs, e => by
    simp only [ldV, nthL_eq] at e
    split at e
    · rename_i v r h1 h2
      simp at e; subst e
      obtain ⟨x, hx, dx⟩ := get_at h h1
      obtain ⟨xs, hxs, dxs⟩ := ldV_at h h2
      exact ⟨x :: xs, by simp only [ldn, hx]; rw [show f + o + 1 = f + (o + 1) by omega, hxs], DenL.cons_iff.2 ⟨x, xs, rfl, dx, dxs⟩⟩
    · cases e

variable {Pr : Program}
theorem run_szV {t n : Nat} (h : szV Pr t = some n) (w : World) : (sizeOf t).run Pr w = .ok n w := run_sizeOf' h w
theorem run_agV {t : Nat} {q : Bool} (h : agV Pr t = some q) (w : World) : (isAgg t).run Pr w = .ok q w := run_isAgg' h w
theorem run_byV {t n : Nat} (h : byV Pr t = some n) (w : World) : ∃ i, (typeInfo t).run Pr w = .ok i w ∧ i.bytes = n := by
  unfold byV at h
  cases e : Pr.info? t with
  | none => rw [e] at h; cases h
  | some i => rw [e] at h; simp at h; exact ⟨i, by simp [typeInfo, e], h⟩

theorem byt_toNat (s : ByteArray) : byt (s.data.toList.map UInt8.toNat) = s := by
  apply ByteArray.ext
  simp [byt, Function.comp_def]
theorem absV_ok : ∀ (n : Nat) {x : Value} {v : V}, absV n x = some v → Den ω β v x := by
  have hL : ∀ (n : Nat), (∀ {x : Value} {v : V}, absV n x = some v → Den ω β v x) → ∀ (l : List Value) {vs : List V}, optL (absV n) l = some vs → DenL ω β vs l := by
    intro n ih l
    induction l with
    | nil => intro vs h; simp [optL] at h; subst h; exact DenL.nil_iff.2 rfl
    | cons x l ihl =>
      intro vs h
      simp only [optL] at h
      split at h
      · rename_i y r h1 h2; simp at h; subst h; exact DenL.cons_iff.2 ⟨x, l, rfl, ih h1, ihl h2⟩
      · cases h
  have base : ∀ (n : Nat), (∀ {x : Value} {v : V}, absV n x = some v → Den ω β v x) → ∀ {x : Value} {v : V}, absV (n + 1) x = some v → Den ω β v x := by
    intro n ih x v h
    cases x with
    | agg cs => simp only [absV, Option.map_eq_some_iff] at h; obtain ⟨l, h, rfl⟩ := h; exact ⟨cs.toList, by simp, hL n ih _ h⟩
    | tuple cs => simp only [absV, Option.map_eq_some_iff] at h; obtain ⟨l, h, rfl⟩ := h; exact ⟨cs.toList, by simp, hL n ih _ h⟩
    | iface t y => simp only [absV, Option.map_eq_some_iff] at h; obtain ⟨l, h, rfl⟩ := h; exact ⟨y, rfl, ih h⟩
    | pointer a => cases a <;> simp [absV] at h; subst h; rfl
    | map a => cases a <;> simp [absV] at h; subst h; rfl
    | slice a l c =>
      cases a with
      | some a => simp [absV] at h
      | none => cases l <;> cases c <;> simp [absV] at h; subst h; rfl
    | string s =>
      simp only [absV, Option.some.injEq] at h; subst h
      refine ⟨by rw [byt_toNat], fun b hb => ?_⟩
      obtain ⟨u, _, rfl⟩ := List.mem_map.1 hb
      exact u.toNat_lt
    | _ => first | (simp [absV] at h; done) | (simp only [absV, Option.some.injEq] at h; subst h; simp [Den])
  intro n
  induction n with
  | zero =>
    intro x v h
    refine base 0 (fun {y u} hy => ?_) (v := v) ?_
    · cases y with
      | agg cs => simp [absV] at hy
      | tuple cs => simp [absV] at hy
      | iface t y => simp [absV] at hy
      | pointer a => cases a <;> simp [absV] at hy; subst hy; rfl
      | map a => cases a <;> simp [absV] at hy; subst hy; rfl
      | slice a l c =>
        cases a with
        | some a => simp [absV] at hy
        | none => cases l <;> cases c <;> simp [absV] at hy; subst hy; rfl
      | string s =>
        simp only [absV, Option.some.injEq] at hy; subst hy
        refine ⟨by rw [byt_toNat], fun b hb => ?_⟩
        obtain ⟨u, _, rfl⟩ := List.mem_map.1 hb
        exact u.toNat_lt
      | _ => first | (simp [absV] at hy; done) | (simp only [absV, Option.some.injEq] at hy; subst hy; simp [Den])
    · cases x with
      | agg => simp [absV] at h
      | tuple => simp [absV] at h
      | iface => simp [absV] at h
      | slice a l c => cases a <;> cases l <;> cases c <;> first | exact h | (simp [absV] at h)
      | pointer a => cases a <;> exact h
      | map a => cases a <;> exact h
      | _ => exact h
  | succ n ih => exact base n ih
theorem run_zeV {t : Nat} {z : V} (h : zeV Pr t = some z) (w : World) : ∃ x, (zeroValue t).run Pr w = .ok x w ∧ Den ω β z x := by
  unfold zeV at h
  cases e : Pr.info? t with
  | none => rw [e] at h; cases h
  | some i =>
    rw [e] at h; simp only [Option.bind_some] at h
    cases e2 : i.zero with
    | none => rw [e2] at h; cases h
    | some x => rw [e2] at h; exact ⟨x, by simp [zeroValue, typeInfo, e, e2], absV_ok 4 h⟩

theorem loadV_ok (hw : WR B ω H nx β w) {t i o : Nat} {v : V} (h : loadV Pr H t i o = some v) {b f n : Nat} (hb : bt β i = some (b, f, n)) : ∃ x, (loadVar t ⟨b, f + o, none⟩).run Pr w = .ok x w ∧ Den ω β v x := by
  unfold loadV at h
  split at h
  · rename_i q1 q2 t' cs h1 h2
    split at h
    · rename_i m h3
      simp only [Option.map_eq_some_iff] at h
      obtain ⟨vs, h4, rfl⟩ := h
      obtain ⟨all, fr, e1, e2, e3, e4, e5⟩ := hw.cells (clV_ok h1) hb
      obtain ⟨xs, hx, dx⟩ := ldV_at e5 h4
      refine ⟨.agg xs.toArray, ?_, xs, rfl, dx⟩
      simp [loadVar, run_agV h2, run_szV h3, run_loadCells e1 hx]
    · cases h
  · rename_i q1 q2 t' cs h1 h2
    obtain ⟨all, fr, e1, e2, e3, e4, e5⟩ := hw.cells (clV_ok h1) hb
    rw [nthL_eq] at h
    obtain ⟨x, hx, dx⟩ := get_at e5 h
    refine ⟨x, ?_, dx⟩
    have hc : w.cell? ⟨b, f + o, none⟩ = some x := by simp [World.cell?, e1, hx]
    simp [loadVar, run_agV h2, hc]
  · cases h

theorem ldn_extract {xs : List Value} : ∀ {n o : Nat} {ys : List Value}, ldn xs o n = some ys → ys = (xs.drop o).take n
  | 0, o, ys, h => by simp [ldn] at h; subst h; simp
  | n + 1, o, ys, h => by
    simp only [ldn] at h
    split at h
    · rename_i v vs h1 h2
      simp at h; subst h
      rw [ldn_extract h2, ← List.drop_drop]
      have hlt := (List.getElem?_eq_some_iff.1 h1).1
      rw [List.drop_eq_getElem_cons hlt, List.take_succ_cons, List.getElem_eq_getElem?_get]
      simp [h1]
    · cases h
theorem ldV_self {cs : List V} {xs : List Value} (h : DenL ω β cs xs) {n o : Nat} {vs : List V} (e : ldV cs o n = some vs) : ∃ ys, ldn xs o n = some ys ∧ DenL ω β vs ys := by
  have : DenL ω β cs ((xs.drop 0).take cs.length) := by rw [List.drop_zero, ← h.length, List.take_length]; exact h
  obtain ⟨ys, h1, h2⟩ := ldV_at this e
  exact ⟨ys, by simpa using h1, h2⟩
theorem partV_ok {t : Nat} {cs : List V} {xs : List Value} {o : Nat} {v : V} (h : partV Pr t cs o = some v) (hd : DenL ω β cs xs) (w : World) : ∃ x, (part t (List.toArray xs) o).run Pr w = .ok x w ∧ Den ω β v x := by
  unfold partV at h
  split at h
  · rename_i h1
    split at h
    · rename_i n h2
      simp only [Option.map_eq_some_iff] at h
      obtain ⟨vs, h3, rfl⟩ := h
      obtain ⟨ys, h4, h5⟩ := ldV_self hd h3
      refine ⟨.agg (List.toArray ys), ?_, ys, rfl, h5⟩
      have := ldn_extract h4
      simp only [part, Sem.run_bind, run_agV h1, Result.andThen_ok, if_true, run_szV h2, Sem.run_pure]
      congr 2
      apply Array.toList_inj.1
      simp [this, List.drop_take]
    · cases h
  · rename_i h1
    obtain ⟨x, h2, h3⟩ := hd.get h
    refine ⟨x, ?_, h3⟩
    simp [part, run_agV h1, h2]
  · cases h

end Go.Proofs.YtbgkljpbemehiaaGreat.Sx
