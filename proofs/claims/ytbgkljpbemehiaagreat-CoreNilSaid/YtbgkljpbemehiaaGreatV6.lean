/- A run with known values: maps, iterations, copies; what an operation that changes memory comes to. No condition. -/
import Derived.Test.YtbgkljpbemehiaaGreatV5
set_option maxHeartbeats 2000000
namespace Go.Proofs.YtbgkljpbemehiaaGreat.Sx

variable {ω : List Value} {β β' : List (Option B3)} {B : World} {H : HV} {nx : Nat} {w : World} {Pr : Program}

theorem set_obj {b : Nat} {o o' : Obj} (h : w.heap[b]? = some o) (hc : ∀ c t f, o ≠ .cells c t f) : (setObj b o').run Pr w = .ok () { w with heap := w.heap.setIfInBounds b o' } := by
  cases o <;> first | (exact absurd rfl (hc _ _ _)) | simp [setObj, Sem.run, h]
theorem WR.setObj (hw : WR B ω H nx β w) {i : Nat} {o o' : HO} {ob : Obj} {b f n : Nat} (hi : H.get i = some o) (hb : bt β i = some (b, f, n)) (h : HOR ω β f n o' ob) : WR B ω (H.put i (some o')) nx β { w with heap := w.heap.setIfInBounds b ob } := by
  obtain ⟨ob0, h1, _⟩ := hw.at hi hb
  have hlt := lt_of_some h1
  refine hw.put1 hi hb ⟨rfl, rfl, rfl⟩ (by simp [hlt]) (fun c x hc e => ?_) (by simp) h
  show (w.heap.setIfInBounds b ob)[c]? = _
  rw [Array.getElem?_setIfInBounds, if_neg (Ne.symm hc)]; exact e

theorem setKV_ok {k v : V} {kx vx : Value} (dk : Den ω β k kx) (dv : Den ω β v vx) : ∀ {es : List (V × V × Nat)} {l : List MapEntry} (j : Nat), EsR ω β es l → EsR ω β (setKV es j k v) (l.modify j fun e => { e with key := kx, val := vx })
  | [], l, j, h => by have : l = [] := h; subst this; cases j <;> simp [setKV, EsR]
  | (k', v', b) :: es, l, 0, ⟨x, y, r, e, _, _, h⟩ => by subst e; exact ⟨kx, vx, r, by simp, dk, dv, h⟩
  | (k', v', b) :: es, l, j + 1, ⟨x, y, r, e, d1, d2, h⟩ => by subst e; exact ⟨x, y, _, by simp, d1, d2, setKV_ok dk dv j h⟩
theorem EsR.snoc {k v : V} {kx vx : Value} {c : Nat} (dk : Den ω β k kx) (dv : Den ω β v vx) : ∀ {es : List (V × V × Nat)} {l : List MapEntry}, EsR ω β es l → EsR ω β (es ++ [(k, v, c)]) (l ++ [{ key := kx, val := vx, born := c }])
  | [], l, h => by have : l = [] := h; subst this; exact ⟨kx, vx, [], rfl, dk, dv, rfl⟩
  | _ :: es, l, ⟨x, y, r, e, d1, d2, h⟩ => by subst e; exact ⟨x, y, _, rfl, d1, d2, EsR.snoc dk dv h⟩
theorem EsR.erase : ∀ {es : List (V × V × Nat)} {l : List MapEntry} (j : Nat), EsR ω β es l → EsR ω β (es.eraseIdx j) (l.eraseIdx j)
  | [], l, j, h => by have : l = [] := h; subst this; simp [EsR]
  | _ :: es, l, 0, ⟨x, y, r, e, d1, d2, h⟩ => by subst e; exact h
  | _ :: es, l, j + 1, ⟨x, y, r, e, d1, d2, h⟩ => by subst e; exact ⟨x, y, _, rfl, d1, d2, EsR.erase j h⟩
theorem strEq_eq : ∀ {a b : List Nat}, strEq a b = true → a = b
  | [], [], _ => rfl
  | x :: a, y :: b, h => by
    simp only [strEq, Bool.and_eq_true] at h
    rw [Nat.eq_of_beq_eq_true h.1, strEq_eq h.2]
/-- the key that an entry has is the one that was looked for -/
theorem keyA_key {d : TypeDesc} {k : V} {kv : Value} (dk : Den ω β k kv) : ∀ {es : List (V × V × Nat)} {l : List MapEntry} {i j : Nat} {v : V}, keyA d k es i = some (some (j, v)) → EsR ω β es l → i ≤ j ∧ (l[j - i]?).map (·.key) = some kv
  | [], l, i, j, v, h, he => by simp [keyA] at h
  | (k', v', b) :: es, l, i, j, v, h, he => by
    obtain ⟨x, y, s, rfl, d1, d2, d3⟩ := he
    simp only [keyA] at h
    split at h
    · rename_i a c
      simp only [Den] at dk d1; obtain ⟨rfl, ha⟩ := dk; obtain ⟨rfl, hc⟩ := d1
      cases hq : strEq a c with
      | true =>
        rw [hq] at h; simp at h; obtain ⟨rfl, rfl⟩ := h
        have : a = c := strEq_eq hq
        subst this
        exact ⟨Nat.le_refl _, by simp⟩
      | false =>
        rw [hq] at h; simp at h
        obtain ⟨h1, h2⟩ := keyA_key (kv := .string (byt a)) (by simp [Den]; exact ha) h d3
        exact ⟨by omega, by rw [show j - i = (j - (i + 1)) + 1 by omega]; simpa using h2⟩
    · rename_i k0 ka a kc c
      simp only [Den] at dk d1; subst dk; subst d1
      by_cases hk : ka = kc
      · subst hk
        simp only [decide_true, cond_true] at h
        cases hq : (a == c) with
        | true =>
          rw [hq] at h; simp at h; obtain ⟨rfl, rfl⟩ := h
          have : a = c := by simpa using hq
          subst this
          exact ⟨Nat.le_refl _, by simp⟩
        | false =>
          rw [hq] at h; simp at h
          obtain ⟨h1, h2⟩ := keyA_key (kv := .int ka a) (by simp only [Den]) h d3
          exact ⟨by omega, by rw [show j - i = (j - (i + 1)) + 1 by omega]; simpa using h2⟩
      · simp [hk] at h
    · cases h
theorem sameBits_key {d : TypeDesc} {k : V} {kv : Value} (h : simpleK d k = true) (dk : Den ω β k kv) : Instr.sameBits 10000 kv kv = true := by
  have key : ∀ n, Instr.sameBits n kv kv = true := by
    intro n
    unfold simpleK at h
    split at h
    · simp only [Den] at dk; obtain ⟨rfl, _⟩ := dk; simp [Instr.sameBits, beq_toListBytes]
    · simp only [Den] at dk; subst dk; simp [Instr.sameBits]
    · cases h
  exact key 10000
theorem mapUpA_ok (hw : WR B ω H nx β w) {t : TypeId} {m k v : V} {mv kv vv : Value} {H' : HV} (h : mapUpA Pr H t m k v = some H') (dm : Den ω β m mv) (dk : Den ω β k kv) (dv : Den ω β v vv) : ∃ w', (Instr.mapUpdate t mv kv vv).run Pr w = .ok () w' ∧ WR B ω H' nx β w' := by
  unfold mapUpA at h
  split at h
  · rename_i kt et i h1
    simp only [Den] at dm; obtain ⟨b, f, n, hb, rfl⟩ := dm
    split at h
    · rename_i d es c h2 h3
      obtain ⟨hs, h4⟩ := bcond h
      obtain ⟨l, h7, h8⟩ := hw.mapAt h3 hb
      split at h4
      · rename_i j u hk
        simp only [Option.some.injEq] at h4; subst h4
        obtain ⟨r', h5, h6⟩ := findKey_ok dk hk h8 h2 w
        obtain ⟨x, rfl, dx⟩ := h6
        have hkey := (keyA_key dk hk h8).2
        simp only [Nat.sub_zero] at hkey
        have hkt : (Instr.keyThatStays ((((List.toArray l)[j]?).map (·.key)).getD kv) kv).run Pr w = .ok kv w := by
          have : (((List.toArray l)[j]?).map (·.key)).getD kv = kv := by simp [hkey]
          rw [this]
          simp [Instr.keyThatStays, sameBits_key hs dk]
        refine ⟨_, ?_, hw.setObj h3 hb ⟨l.modify j fun e => { e with key := kv, val := vv }, rfl, setKV_ok dk dv j h8⟩⟩
        simp only [Instr.mapUpdate, Sem.run_bind, und h1, Result.andThen_ok, run_getMap h7, checkKey_ok hs dk h2 w, h5, hkt, set_obj h7 (by simp)]
        simp
      · rename_i hk
        simp only [Option.some.injEq] at h4; subst h4
        obtain ⟨r', h5, h6⟩ := findKey_ok dk hk h8 h2 w
        have : r' = none := h6
        subst this
        refine ⟨_, ?_, hw.setObj h3 hb ⟨l ++ [{ key := kv, val := vv, born := c }], rfl, h8.snoc dk dv⟩⟩
        simp only [Instr.mapUpdate, Sem.run_bind, und h1, Result.andThen_ok, run_getMap h7, checkKey_ok hs dk h2 w, h5, set_obj h7 (by simp)]
        simp
      · cases h4
    · cases h
  · cases h

theorem delA_ok (hw : WR B ω H nx β w) {t t2 ty : TypeId} {m k : V} {mv kv : Value} {H' : HV} (h : delA Pr H t m k = some H') (dm : Den ω β m mv) (dk : Den ω β k kv) {ts : List TypeId} : ∃ w', (Builtin.delete_ (List.toArray (t :: ts)) ty #[mv, kv]).run Pr w = .ok (.tuple #[]) w' ∧ WR B ω H' nx β w' := by
  unfold delA at h
  split at h
  · rename_i kt et i h1
    simp only [Den] at dm; obtain ⟨b, f, n, hb, rfl⟩ := dm
    split at h
    · rename_i d es c h2 h3
      obtain ⟨hs, h4⟩ := bcond h
      obtain ⟨l, h7, h8⟩ := hw.mapAt h3 hb
      split at h4
      · rename_i j u hk
        simp only [Option.some.injEq] at h4; subst h4
        obtain ⟨r', h5, h6⟩ := findKey_ok dk hk h8 h2 w
        obtain ⟨x, rfl, dx⟩ := h6
        refine ⟨_, ?_, hw.setObj h3 hb ⟨l.eraseIdx j, rfl, h8.erase j⟩⟩
        simp only [Builtin.delete_, List.getElem?_toArray, List.getElem?_cons_zero, List.getElem?_cons_succ, Sem.run_bind, und h1, Result.andThen_ok, run_getMap h7, checkKey_ok hs dk h2 w, h5, set_obj h7 (by simp), Sem.run_pure]
        simp
      · rename_i hk
        simp only [Option.some.injEq] at h4; subst h4
        obtain ⟨r', h5, h6⟩ := findKey_ok dk hk h8 h2 w
        have : r' = none := h6
        subst this
        have hset : { w with heap := w.heap.setIfInBounds b (.map (List.toArray l) c) } = w := by
          have : w.heap.setIfInBounds b (.map (List.toArray l) c) = w.heap := by
            apply Array.ext_getElem?
            intro j
            rw [Array.getElem?_setIfInBounds]
            split
            · rename_i e; subst e; rw [h7]; simp [lt_of_some h7]
            · rfl
          rw [this]
        refine ⟨w, ?_, hw⟩
        simp only [Builtin.delete_, List.getElem?_toArray, List.getElem?_cons_zero, List.getElem?_cons_succ, Sem.run_bind, und h1, Result.andThen_ok, run_getMap h7, checkKey_ok hs dk h2 w, h5, set_obj h7 (by simp), Sem.run_pure, hset]
      · cases h4
    · cases h
  · cases h

theorem rangeA_ok (hw : WR B ω H nx β w) {t : TypeId} {x r : V} {xv : Value} {H' : HV} {nx' : Nat} (h : rangeA Pr H nx t x = some (r, H', nx')) (dx : Den ω β x xv) : EfR Pr B ω β (Instr.range t xv) w r H' nx' := by
  have hl : bt (β ++ [some (w.heap.size, 0, 0)]) nx = some (w.heap.size, 0, 0) := by rw [← hw.len]; simp
  unfold rangeA at h
  split at h
  · rename_i k e h1
    simp only [Den] at dx; subst dx
    simp only [Option.some.injEq, Prod.mk.injEq] at h
    obtain ⟨rfl, rfl, rfl⟩ := h
    refine ⟨.pointer (some ⟨w.heap.size, 0, none⟩), w.alloc (.mapIter none 0 #[] 0), β ++ [some (w.heap.size, 0, 0)], LeA.snoc _ _, by simp [Instr.range, und h1], ⟨w.heap.size, 0, 0, hl, rfl⟩, hw.fresh ⟨rfl, rfl⟩⟩
  · rename_i k e m h1
    simp only [Den] at dx; obtain ⟨b, f, n, hb, rfl⟩ := dx
    split at h
    · rename_i es c h2
      obtain ⟨l, h7, h8⟩ := hw.mapAt h2 hb
      simp only [Option.some.injEq, Prod.mk.injEq] at h
      obtain ⟨rfl, rfl, rfl⟩ := h
      refine ⟨.pointer (some ⟨w.heap.size, 0, none⟩), w.alloc (.mapIter (some b) c #[] c), β ++ [some (w.heap.size, 0, 0)], LeA.snoc _ _, by simp [Instr.range, und h1, run_getMap h7], ⟨w.heap.size, 0, 0, hl, rfl⟩, hw.fresh ⟨rfl, b, f, n, Le.snoc _ _ _ _ hb, rfl⟩⟩
    · cases h
  · cases h

/-! ### iterations -/
theorem EsR.filter (g : Nat → Bool) : ∀ {es : List (V × V × Nat)} {l : List MapEntry}, EsR ω β es l → EsR ω β (es.filter fun e => g e.2.2) (l.filter fun e => g e.born)
  | [], l, h => by have : l = [] := h; subst this; rfl
  | (k, v, b) :: es, l, ⟨x, y, r, e, d1, d2, h⟩ => by
    subst e
    simp only [List.filter_cons]
    split
    · exact ⟨x, y, _, rfl, d1, d2, EsR.filter g h⟩
    · exact EsR.filter g h
theorem EsR.all (g : Nat → Bool) : ∀ {es : List (V × V × Nat)} {l : List MapEntry}, EsR ω β es l → (l.all fun e => g e.born) = es.all fun e => g e.2.2
  | [], l, h => by have : l = [] := h; subst this; rfl
  | (k, v, b) :: es, l, ⟨x, y, r, e, d1, d2, h⟩ => by subst e; simp only [List.all_cons, EsR.all g h]
theorem EsR.empty {es : List (V × V × Nat)} {l : List MapEntry} (h : EsR ω β es l) : l.isEmpty = es.isEmpty := by
  have := h.length
  cases l <;> cases es <;> simp at this ⊢
theorem EsR.append : ∀ {es fs : List (V × V × Nat)} {l m : List MapEntry}, EsR ω β es l → EsR ω β fs m → EsR ω β (es ++ fs) (l ++ m)
  | [], fs, l, m, h, k => by have : l = [] := h; subst this; exact k
  | _ :: es, fs, l, m, ⟨x, y, r, e, d1, d2, h⟩, k => by subst e; exact ⟨x, y, _, rfl, d1, d2, EsR.append h k⟩
theorem EsR.get : ∀ {es : List (V × V × Nat)} {l : List MapEntry} {i : Nat} {e : MapEntry}, EsR ω β es l → l[i]? = some e → ∃ k v, es[i]? = some (k, v, e.born) ∧ Den ω β k e.key ∧ Den ω β v e.val
  | [], l, i, e, h, he => by have : l = [] := h; subst this; simp at he
  | (k, v, b) :: es, l, i, e, ⟨x, y, r, eq, d1, d2, h⟩, he => by
    subst eq
    cases i with
    | zero => simp at he; subst he; exact ⟨k, v, rfl, d1, d2⟩
    | succ i => simp at he; obtain ⟨k, v, a, b, c⟩ := EsR.get h he; exact ⟨k, v, by simpa using a, b, c⟩
theorem WR.iterAt (hw : WR B ω H nx β w) {i : Nat} {m : Option Nat} {s st : Nat} {seen : List Nat} {b f n : Nat} (e : H.get i = some (.iter m s seen st)) (hb : bt β i = some (b, f, n)) : f = 0 ∧ match m with
    | none => w.heap[b]? = some (.mapIter none s seen.toArray st)
    | some j => ∃ b' f' n', bt β j = some (b', f', n') ∧ w.heap[b]? = some (.mapIter (some b') s seen.toArray st) := by
  obtain ⟨ob, h1, h0, h2⟩ := hw.at e hb
  refine ⟨h0, ?_⟩
  cases m with
  | none => have h2 : ob = _ := h2; rw [h1, h2]
  | some j => obtain ⟨b', f', n', e1, e2⟩ := h2; exact ⟨b', f', n', e1, by rw [h1, e2]⟩
theorem run_getObj' {b : Nat} {o : Obj} (h : w.heap[b]? = some o) (hc : ∀ c t f, o ≠ .cells c t f) : (getObj b).run Pr w = .ok o w := by
  cases o <;> first | (exact absurd rfl (hc _ _ _)) | simp [getObj, Sem.run, h]

theorem choose_next {n : Nat} (h : 0 < n) (w : World) : ∃ i w2, (choose (.mapNext n)).run Pr w = .ok i w2 ∧ i < n ∧ (w2 = w ∨ w2 = w.drew) := by
  by_cases h1 : n ≤ 1
  · exact ⟨0, w, by simp [run_choose, Question.forced, h1], h, .inl rfl⟩
  · exact ⟨w.tape w.drawn (.mapNext n) % n, w.drew, by simp [run_choose, Question.forced, h1, Question.cut], Nat.mod_lt _ h, .inr rfl⟩
theorem nextA_ok (hw : WR B ω H nx β w) {ty : TypeId} {it : V} {iv : Value} {outs : List (V × HV)} (h : nextA H it = some outs) (di : Den ω β it iv) : ∃ p ∈ outs, ∃ x w', (Instr.next iv false ty).run Pr w = .ok x w' ∧ Den ω β p.1 x ∧ WR B ω p.2 nx β w' := by
  unfold nextA at h
  split at h
  · rename_i r
    simp only [Den] at di; obtain ⟨b, f, n, hb, rfl⟩ := di
    split at h
    · rename_i s seen st hr
      obtain ⟨hf, hh⟩ := hw.iterAt hr hb
      replace hh : w.heap[b]? = _ := hh
      simp only [Option.some.injEq] at h; subst h
      refine ⟨(.tup [.bool false], H), by simp, .tuple #[.bool false], w, ?_, ⟨[.bool false], rfl, by simp [DenL, Den]⟩, hw⟩
      subst hf
      simp [Instr.next, run_getObj' hh]
    · rename_i m since seen last hr
      obtain ⟨hf, bm, fm, nm, hbm, hh⟩ := hw.iterAt hr hb
      subst hf
      split at h
      · rename_i es clock hm
        obtain ⟨l, h7, h8⟩ := hw.mapAt hm hbm
        replace h := bcond' h
        obtain ⟨hc, h⟩ := h
        simp only [Option.some.injEq] at h
        have p0 : (fun e : V × V × Nat => Nat.ble last e.2.2) = fun e => decide (e.2.2 ≥ last) := by funext e; rw [Bool.eq_iff_iff, decide_eq_true_eq, Nat.ble_eq]
        have p1 : (fun e : V × V × Nat => !(seen.elem e.2.2)) = fun e => !(seen.toArray.contains e.2.2) := by funext e; simp
        have p2 : (fun e : V × V × Nat => Nat.blt e.2.2 since) = fun e => decide (e.2.2 < since) := by funext e; rw [Bool.eq_iff_iff, decide_eq_true_eq, Nat.blt_eq]
        have p3 : (fun e : V × V × Nat => !Nat.blt e.2.2 since) = fun e => decide (e.2.2 ≥ since) := by
          funext e; rw [congrFun p2 e, Bool.eq_iff_iff]; simp
        have hguard : (!seen.toArray.isEmpty && !(List.toArray l).isEmpty && (List.toArray l).all (fun e => decide (e.born ≥ last))) = false := by
          rw [← hc]
          have e1 := EsR.all (fun x => decide (x ≥ last)) h8
          have e2 := h8.empty
          rw [p0, ← e1, ← e2]
          simp
        have fl := EsR.filter (fun x => !(seen.toArray.contains x)) h8
        have fo := EsR.filter (fun x => decide (x < since)) fl
        have fn := EsR.filter (fun x => decide (x ≥ since)) fl
        rw [p1, p2, p3] at h
        obtain ⟨eo, heo⟩ : ∃ x, x = (es.filter fun e => !(seen.toArray.contains e.2.2)).filter fun e => decide (e.2.2 < since) := ⟨_, rfl⟩
        obtain ⟨en, hen⟩ : ∃ x, x = (es.filter fun e => !(seen.toArray.contains e.2.2)).filter fun e => decide (e.2.2 ≥ since) := ⟨_, rfl⟩
        obtain ⟨lo, hlo⟩ : ∃ x, x = (l.filter fun e => !(seen.toArray.contains e.born)).filter fun e => decide (e.born < since) := ⟨_, rfl⟩
        obtain ⟨ln, hln⟩ : ∃ x, x = (l.filter fun e => !(seen.toArray.contains e.born)).filter fun e => decide (e.born ≥ since) := ⟨_, rfl⟩
        rw [← heo, ← hen] at h
        rw [← heo, ← hlo] at fo
        rw [← hen, ← hln] at fn
        have fa := fo.append fn
        have hemp := fo.empty
        have hrun : ∀ i w2, (choose (.mapNext ((if lo.isEmpty then [none] else []) ++ (lo ++ ln).map some).length)).run Pr w = .ok i w2 → (w2 = w ∨ w2 = w.drew) → ∀ c, ((if lo.isEmpty then [none] else []) ++ (lo ++ ln).map some)[i]? = some c →
            (Instr.next (.pointer (some ⟨b, 0 + 0, none⟩)) false ty).run Pr w = match c with
              | some e => .ok (.tuple #[.bool true, e.key, e.val]) { w2 with heap := w2.heap.setIfInBounds b (.mapIter (some bm) since (seen.toArray.push e.born) clock) }
              | none => .ok (.tuple #[.bool false]) w2 := by
          intro i w2 hch hw2 c hcc
          have hh2 : w2.heap[b]? = some (.mapIter (some bm) since seen.toArray last) := by rcases hw2 with rfl | rfl <;> exact hh
          simp only [Instr.next, Nat.add_zero, Sem.run_bind, run_getObj' hh (by simp), run_getMap h7, Result.andThen_ok, hguard, Bool.false_eq_true, if_false]
          have earr : ((if (Array.filter (fun x => decide (x.born < since)) (Array.filter (fun e => !seen.toArray.contains e.born) (List.toArray l))).isEmpty = true then (#[none] : Array (Option MapEntry)) else #[]) ++
              Array.map some (Array.filter (fun x => decide (x.born < since)) (Array.filter (fun e => !seen.toArray.contains e.born) (List.toArray l)) ++ Array.filter (fun x => decide (x.born ≥ since)) (Array.filter (fun e => !seen.toArray.contains e.born) (List.toArray l)))) =
              List.toArray ((if lo.isEmpty then [none] else []) ++ (lo ++ ln).map some) := by
            apply Array.toList_inj.1
            rw [hlo, hln]
            simp only [Array.toList_append, Array.toList_map, Array.toList_filter, List.toList_toArray]
            congr 1
            rw [show (Array.filter (fun x => decide (x.born < since)) (Array.filter (fun e => !seen.toArray.contains e.born) (List.toArray l))).isEmpty = (List.filter (fun x => decide (x.born < since)) (List.filter (fun e => !seen.toArray.contains e.born) l)).isEmpty by
              rw [← Array.isEmpty_toList]; simp only [Array.toList_filter, List.toList_toArray]]
            split <;> rfl
          rw [earr, List.size_toArray, hch]
          simp only [Result.andThen_ok, List.getElem?_toArray, hcc]
          cases c with
          | none => rfl
          | some e => simp only [Sem.run_bind, set_obj hh2 (by simp), Result.andThen_ok, Sem.run_pure]
        have hne : 0 < ((if lo.isEmpty then [none] else []) ++ (lo ++ ln).map some).length := by
          split
          · simp
          · rename_i hn
            rw [List.isEmpty_iff] at hn
            have := List.length_pos_iff.2 hn
            simp only [List.nil_append, List.length_map, List.length_append]; omega
        obtain ⟨i, w2, hch, hlt, hw2⟩ := choose_next (Pr := Pr) hne w
        have hr2 := hrun i w2 hch hw2 _ (List.getElem?_eq_getElem hlt)
        have hwr2 : WR B ω H nx β w2 := by rcases hw2 with rfl | rfl; exact hw; exact hw.drew
        have over : (V.tup [.bool false], H) ∈ outs → ((if lo.isEmpty then [none] else []) ++ (lo ++ ln).map some)[i] = none → ∃ p ∈ outs, ∃ x w', (Instr.next (.pointer (some ⟨b, 0 + 0, none⟩)) false ty).run Pr w = .ok x w' ∧ Den ω β p.1 x ∧ WR B ω p.2 nx β w' := by
          intro hm hc
          rw [hc] at hr2
          exact ⟨_, hm, _, _, hr2, ⟨[.bool false], rfl, by simp [DenL, Den]⟩, hwr2⟩
        have one : ∀ (j : Nat) e, (lo ++ ln)[j]? = some e → ((if lo.isEmpty then [none] else []) ++ (lo ++ ln).map some)[i] = some e → ∃ p ∈ outs, ∃ x w', (Instr.next (.pointer (some ⟨b, 0 + 0, none⟩)) false ty).run Pr w = .ok x w' ∧ Den ω β p.1 x ∧ WR B ω p.2 nx β w' := by
          intro j e he hc
          obtain ⟨k, v, h1, d1, d2⟩ := fa.get he
          rw [hc] at hr2
          refine ⟨(.tup [.bool true, k, v], H.put r (some (.iter (some m) since (seen ++ [e.born]) clock))), ?_, _, _, hr2, ⟨[.bool true, e.key, e.val], rfl, DenL.cons_iff.2 ⟨_, _, rfl, by simp [Den], DenL.cons_iff.2 ⟨_, _, rfl, d1, DenL.cons_iff.2 ⟨_, _, rfl, d2, DenL.nil_iff.2 rfl⟩⟩⟩⟩, ?_⟩
          · rw [← h]
            exact List.mem_append_right _ (List.mem_map.2 ⟨(k, v, e.born), List.mem_of_getElem? h1, rfl⟩)
          · refine hwr2.setObj hr hb ⟨rfl, bm, fm, nm, hbm, ?_⟩
            simp
        cases hl0 : lo.isEmpty with
        | true =>
          have he0 : eo.isEmpty = true := by rw [← hemp]; exact hl0
          cases i with
          | zero => exact over (by rw [← h, he0]; simp) (by simp [hl0])
          | succ j =>
            have hj : j < (lo ++ ln).length := by simp only [hl0, if_true, List.length_append, List.length_map, List.length_singleton] at hlt ⊢; omega
            exact one j (lo ++ ln)[j] (List.getElem?_eq_getElem hj) (Option.some.inj ((List.getElem?_eq_getElem hlt).symm.trans (by rw [hl0, if_pos rfl, List.singleton_append, List.getElem?_cons_succ, List.getElem?_map, List.getElem?_eq_getElem hj]; rfl)))
        | false =>
          have hj : i < (lo ++ ln).length := by simp only [hl0, Bool.false_eq_true, if_false, List.length_append, List.length_map, List.length_nil] at hlt ⊢; omega
          exact one i (lo ++ ln)[i] (List.getElem?_eq_getElem hj) (Option.some.inj ((List.getElem?_eq_getElem hlt).symm.trans (by rw [hl0, if_neg (by simp), List.nil_append, List.getElem?_map, List.getElem?_eq_getElem hj]; rfl)))
      · cases h
    · cases h
  · cases h

theorem entryA_ok (hw : WR B ω H nx β w) {it v : V} {iv : Value} (h : entryA H it = some v) (di : Den ω β it iv) : ∃ x, (Instr.entry iv).run Pr w = .ok x w ∧ Den ω β v x := by
  unfold entryA at h
  split at h
  · rename_i r
    simp only [Den] at di; obtain ⟨b, f, n, hb, rfl⟩ := di
    split at h
    · rename_i m since seen stepped hr
      obtain ⟨hf, bm, fm, nm, hbm, hh⟩ := hw.iterAt hr hb
      subst hf
      split at h
      · rename_i stamp es clock hs hm
        obtain ⟨l, h7, h8⟩ := hw.mapAt hm hbm
        obtain ⟨h1, h2⟩ := bcond h
        have h1 := Nat.eq_of_beq_eq_true h1
        subst h1
        simp only [Option.map_eq_some_iff] at h2
        obtain ⟨⟨k, u, bo⟩, h3, rfl⟩ := h2
        have key : ∀ {es : List (V × V × Nat)} {l : List MapEntry}, EsR ω β es l → es.find? (fun e => Nat.beq e.2.2 stamp) = some (k, u, bo) → ∃ e, l.find? (fun e => e.born == stamp) = some e ∧ Den ω β k e.key ∧ Den ω β u e.val := by
          intro es
          induction es with
          | nil => intro l _ h; simp at h
          | cons e es ih =>
            intro l hl h
            obtain ⟨k', v', b'⟩ := e
            obtain ⟨x, y, r, rfl, d1, d2, d3⟩ := hl
            simp only [List.find?_cons] at h ⊢
            by_cases hq : b' = stamp
            · subst hq
              simp at h
              obtain ⟨rfl, rfl, rfl⟩ := h
              exact ⟨{ key := x, val := y, born := b' }, by simp, d1, d2⟩
            · rw [beq_ne hq] at h
              simp only [] at h
              obtain ⟨e, h1, h2⟩ := ih d3 h
              exact ⟨e, by rw [show (b' == stamp) = false by simpa using hq]; exact h1, h2⟩
        obtain ⟨e, h4, d1, d2⟩ := key h8 h3
        refine ⟨.tuple #[e.key, e.val], ?_, [e.key, e.val], rfl, DenL.cons_iff.2 ⟨_, _, rfl, d1, DenL.cons_iff.2 ⟨_, _, rfl, d2, DenL.nil_iff.2 rfl⟩⟩⟩
        have hback : seen.toArray.back? = some stamp := by rw [← hs]; simp
        have hfind : (List.toArray l).find? (fun e => e.born == stamp) = some e := by rw [← h4]; simp
        simp only [Instr.entry, Nat.add_zero, Sem.run_bind, run_getObj' hh (by simp), run_getMap h7, Result.andThen_ok, hback, bne_self_eq_false, Bool.false_eq_true, if_false, hfind, Sem.run_pure]
      · cases h
    · cases h
  · cases h

/-! ### copies -/
theorem run_first {z n m c : Nat} {a : Option Addr} {ys : List Value} (h : Rdw w (.slice a m c) z m ys) (hn : n ≤ m) : (Builtin.firstCells z n (.slice a m c)).run Pr w = .ok (List.toArray (ys.take (n * z))) w := by
  obtain ⟨a', c', he, hc, hl, h⟩ := h
  simp only [Value.slice.injEq] at he
  obtain ⟨rfl, _, rfl⟩ := he
  cases a with
  | none =>
    have : m = 0 := by rcases h with h | ⟨b, o, all, T, fr, h, _⟩; exact h; cases h
    subst this
    have : n = 0 := by omega
    subst this
    simp [Builtin.firstCells]
  | some a =>
    rcases h with h | ⟨b, o, all, T, fr, h, e1, e2⟩
    · subst h
      have : n = 0 := by omega
      subst this
      simp [Builtin.firstCells, loadCells, loadCellsFrom]
    · simp only [Option.some.injEq] at h; subst h
      have hle := Nat.mul_le_mul_right z hn
      have := ldn_sub (i := 0) (m := n * z) e2 (by omega)
      simp only [Nat.add_zero, List.drop_zero] at this
      simp [Builtin.firstCells, run_loadCells e1 this]
theorem copyA_ok (hw : WR B ω H nx β w) {t ty : TypeId} {ts : List TypeId} {d s r : V} {dv sv : Value} {H' : HV} (h : copyA Pr H t d s = some (r, H')) (dd : Den ω β d dv) (ds : Den ω β s sv) : ∃ x w', (Builtin.copy_ (List.toArray (t :: ts)) ty #[dv, sv]).run Pr w = .ok x w' ∧ Den ω β r x ∧ WR B ω H' nx β w' := by
  unfold copyA at h
  split at h
  · rename_i e h1
    split at h
    · rename_i z hz
      split at h
      · rename_i n xs i o l c hf
        simp only [Den] at dd; obtain ⟨b, f, bn, hb, rfl, hlc⟩ := dd
        obtain ⟨ys, hx, dy⟩ := firstA_rd hw hf ds
        obtain ⟨a', c', rfl, _, hyl, _⟩ := id hx
        split at h
        · rename_i T cs hi
          obtain ⟨g1, h⟩ := bcond h
          split at h
          · rename_i cs' hst
            simp only [Option.some.injEq, Prod.mk.injEq] at h
            obtain ⟨rfl, rfl⟩ := h
            obtain ⟨w', k1, k2⟩ := cells_ok (Pr := Pr) hw hi hb hst g1 (dy.take (min n l * z))
            refine ⟨goInt (min n l : Nat), w', ?_, rfl, k2⟩
            simp only [Builtin.copy_, List.getElem?_toArray, List.getElem?_cons_zero, List.getElem?_cons_succ, Sem.run_bind, und h1, Result.andThen_ok, Builtin.lenOf, Sem.run_pure, run_szV hz]
            rw [show Nat.min n l = min n l from rfl, run_first hx (Nat.min_le_left _ _)]
            simp only [Result.andThen_ok, List.toList_toArray, Sem.run_bind, k1, Sem.run_pure]
          · cases h
        · cases h
      · rename_i n xs hf
        simp only [Den] at dd; subst dd
        obtain ⟨ys, hx, dy⟩ := firstA_rd hw hf ds
        obtain ⟨a', c', rfl, _, hyl, _⟩ := id hx
        simp only [Option.some.injEq, Prod.mk.injEq] at h
        obtain ⟨rfl, rfl⟩ := h
        refine ⟨goInt 0, w, ?_, rfl, hw⟩
        simp only [Builtin.copy_, List.getElem?_toArray, List.getElem?_cons_zero, List.getElem?_cons_succ, Sem.run_bind, und h1, Result.andThen_ok, Builtin.lenOf, Sem.run_pure, run_szV hz]
        rw [show Nat.min n 0 = 0 from Nat.min_zero n, run_first hx (Nat.zero_le _)]
        simp
      · cases h
    · cases h
  · cases h

theorem clearA_ok (hw : WR B ω H nx β w) {t ty : TypeId} {ts : List TypeId} {s : V} {sv : Value} {H' : HV} (h : clearA Pr H t s = some H') (ds : Den ω β s sv) : ∃ w', (Builtin.clear_ (List.toArray (t :: ts)) ty #[sv]).run Pr w = .ok (.tuple #[]) w' ∧ WR B ω H' nx β w' := by
  have body : ∀ {e i o l c b f bn : Nat} {zv : V} {T : TypeId} {cs : List V}, Pr.underlying t = some (.slice e) → zeV Pr e = some zv → H.get i = some (.cells T cs) → bt β i = some (b, f, bn) →
      (bif Nat.beq l 0 then some H else bif zv.noTup && !Nat.beq zv.cells.length 0 && allOne (repV zv.cells l) then (stV cs o (repV zv.cells l)).map fun cs' => H.put i (some (.cells T cs')) else none) = some H' →
      ∃ w', (Builtin.clear_ (List.toArray (t :: ts)) ty #[.slice (some ⟨b, f + o, none⟩) l c]).run Pr w = .ok (.tuple #[]) w' ∧ WR B ω H' nx β w' := by
    intro e i o l c b f bn zv T cs h1 hzv hi hb h
    by_cases hl : l = 0
    · subst hl
      simp at h; subst h
      exact ⟨w, by simp [Builtin.clear_, und h1], hw⟩
    · rw [beq_ne hl] at h
      simp only [cond_false] at h
      obtain ⟨g, h⟩ := bcond h
      simp only [Bool.and_eq_true, Bool.not_eq_true'] at g
      obtain ⟨⟨g1, g2⟩, g3⟩ := g
      simp only [Option.map_eq_some_iff] at h
      obtain ⟨cs', hst, rfl⟩ := h
      obtain ⟨zx, r1, d1⟩ := run_zeV (ω := ω) (β := β) hzv w
      have dz := d1.cells (noTup_ok g1)
      have hz0 : zx.cells.size ≠ 0 := fun e => by
        have := dz.length
        rw [Array.length_toList, e] at this
        rw [← this] at g2; cases g2
      obtain ⟨w', k1, k2⟩ := cells_ok (Pr := Pr) hw hi hb hst g3 (rep_zeros dz l)
      refine ⟨w', ?_, k2⟩
      obtain ⟨l', rfl⟩ : ∃ l', l = l' + 1 := ⟨l - 1, by omega⟩
      have hzc : Builtin.zeroCells zx.cells (l' + 1) = List.toArray (zeros zx.cells.toList (l' + 1)) := zeros_arr hz0 _
      simp only [Builtin.clear_, List.getElem?_toArray, List.getElem?_cons_zero, Sem.run_bind, und h1, Result.andThen_ok, r1, hzc, k1, Sem.run_pure]
  unfold clearA at h
  split at h
  · rename_i e h1
    simp only [Den] at ds; subst ds
    simp at h; subst h
    exact ⟨w, by simp [Builtin.clear_, und h1], hw⟩
  · rename_i e h1
    simp only [Den] at ds; obtain ⟨a, c, rfl⟩ := ds
    simp at h; subst h
    exact ⟨w, by simp [Builtin.clear_, und h1], hw⟩
  · rename_i e i o l c h1
    simp only [Den] at ds; obtain ⟨b, f, n, hb, rfl, _⟩ := ds
    split at h
    · rename_i zv T cs h2 h3; exact body h1 h2 h3 hb h
    · cases h
  · rename_i e i o l z h1
    simp only [Den] at ds; obtain ⟨b, f, n, c, hb, rfl, _⟩ := ds
    split at h
    · rename_i zv T cs h2 h3; exact body h1 h2 h3 hb h
    · cases h
  · cases h

/-! ### a block whose end is marked -/
theorem freeze_at {w0 : World} {b : Nat} {all : List Value} {T : TypeId} {fr : Nat × Nat} (h : w0.heap[b]? = some (.cells (List.toArray all) T fr)) (hf : ufz fr all.length) :
    ∃ fr', (markStringish ⟨b, 0, none⟩).run Pr w0 = .ok () (w0.freeze { block := b, off := all.length } 1) ∧ (w0.freeze { block := b, off := all.length } 1).heap[b]? = some (.cells (List.toArray all) T fr') ∧ ufz fr' all.length ∧ Same w0 (w0.freeze { block := b, off := all.length } 1) ∧
      (w0.freeze { block := b, off := all.length } 1).heap.size = w0.heap.size ∧ ∀ c, c ≠ b → (w0.freeze { block := b, off := all.length } 1).heap[c]? = w0.heap[c]? := by
  obtain ⟨lo, hi⟩ := fr
  refine ⟨if lo == hi then (all.length, all.length + 1) else (min lo all.length, max hi (all.length + 1)), ?_, ?_, ?_, ?_, ?_, ?_⟩
  · simp [markStringish, World.shape?, h]
  · simp [World.freeze, Array.getElem?_modify, h]
  · unfold ufz at hf ⊢
    by_cases e : lo = hi
    · subst e; simp
    · simp [e] at hf ⊢; right; omega
  · simp [World.freeze]; exact ⟨rfl, rfl, rfl⟩
  · simp [World.freeze]
  · intro c hc
    simp [World.freeze, Array.getElem?_modify, Ne.symm hc]
theorem mark_at (b o : Nat) (w0 : World) : (markStringish ⟨b, o, none⟩).run Pr w0 = (markStringish ⟨b, 0, none⟩).run Pr w0 := by simp [markStringish]

theorem keep_ok (hw : WR B ω H nx β w) {s t : TypeId} {e1 e2 : TypeId} {i : Nat} {o l c : Nat} {T : TypeId} {cs : List V} {b f n : Nat} (h1 : Pr.underlying s = some (.slice e1)) (h2 : Pr.underlying t = some (.slice e2)) (h3 : Pr.underlying e2 = some (.int .u8)) (hst : s = t) (hi : H.get i = some (.cells T cs)) (hb : bt β i = some (b, f, n)) :
    ∃ w', (convert s t (.slice (some ⟨b, f + o, none⟩) l c)).run Pr w = .ok (.slice (some ⟨b, f + o, none⟩) l c) w' ∧ WR B ω H nx β w' := by
  obtain ⟨all, fr, k1, k2, k3, k4, k5⟩ := hw.cells hi hb
  obtain ⟨fr', m1, m2, m3, m4, m5, m6⟩ := freeze_at (Pr := Pr) k1 (k2 ▸ k4)
  refine ⟨w.freeze { block := b, off := all.length } 1, ?_, ?_⟩
  · subst hst
    simp only [convert, Sem.run_bind, und h1, und h3, Result.andThen_ok, beq_self_eq_true, mark_at, m1, Sem.run_pure]
    rw [h1] at h2; cases h2
    simp only [und h3, Result.andThen_ok, mark_at, m1, Sem.run_bind, Sem.run_pure]
  · have := hw.put1 (o' := .cells T cs) hi hb m4 m2 (fun c o hc e => by rw [m6 c hc]; exact e) (by rw [m5]; exact Nat.le_refl _) ⟨all, fr', rfl, k2, k3, k2 ▸ m3, k5⟩
    refine ⟨this.os, this.tape, this.output, this.size, this.old, this.new, this.len, fun j x b' f' n' e a1 => ?_, hw.ex, hw.inj⟩
    by_cases hj : j = i
    · subst hj; rw [hi] at e; cases e; rw [hb] at a1; cases a1
      exact ⟨_, m2, all, fr', rfl, k2, k3, k2 ▸ m3, k5⟩
    · obtain ⟨ob, a2, a3⟩ := hw.obj j x b' f' n' e a1
      refine ⟨ob, ?_, a3⟩
      rw [m6 b' (fun e2 => hj (hw.inj j i x _ b' f' n' f n e hi a1 (e2 ▸ hb)))]; exact a2

theorem digits_ok {s : List Nat} (h : ∀ b ∈ s, b < 256) : DenL ω β (digitsV s) ((byt s).data.toList.map fun b => Value.int .u8 b.toNat) := by
  induction s with
  | nil => exact DenL.nil_iff.2 rfl
  | cons b s ih =>
    have := ih (fun x hx => h x (by simp [hx]))
    refine DenL.cons_iff.2 ⟨.int .u8 (UInt8.ofNat b).toNat, _, rfl, ?_, this⟩
    have hb := h b (by simp)
    simp [Den]; omega
theorem s2b_ok (hw : WR B ω H nx β w) {e : TypeId} {s : List Nat} (h : ∀ b ∈ s, b < 256) : EfR Pr B ω β (Conv.stringToBytes e (byt s)) w (.su nx 0 s.length 1) (mkV H nx (.cells e (digitsV s))) (nx + 1) := by
  obtain ⟨cap, hcap⟩ : ∃ cap, cap = s.length + w.tape w.drawn (.appendCap s.length 0 e) % (2 ^ 63 - s.length) := ⟨_, rfl⟩
  have hge : s.length ≤ cap := by omega
  obtain ⟨all, hall⟩ : ∃ all : List Value, all = ((byt s).data.toList.map fun b => Value.int .u8 b.toNat) ++ List.replicate (cap - s.length) (.int .u8 0) := ⟨_, rfl⟩
  have hl1 : ((byt s).data.toList.map fun b => Value.int .u8 b.toNat).length = s.length := by simp [byt]
  have hlen : all.length = cap := by rw [hall, List.length_append, hl1, List.length_replicate]; omega
  obtain ⟨w1, hw1⟩ : ∃ w1, w1 = w.drew.alloc (.cells (List.toArray all) e) := ⟨_, rfl⟩
  have hb1 : w1.heap[w.heap.size]? = some (.cells (List.toArray all) e (0, 0)) := by rw [hw1]; show (w.heap.push _)[w.heap.size]? = _; simp
  obtain ⟨fr', m1, m2, m3, m4, m5, m6⟩ := freeze_at (Pr := Pr) hb1 (ufz_zero _)
  have hs1 : w1.heap.size = w.heap.size + 1 := by rw [hw1]; show (w.heap.push _).size = _; simp
  have hlast : bt (β ++ [some (w.heap.size, 0, cap)]) nx = some (w.heap.size, 0, cap) := by rw [← hw.len]; simp
  refine ⟨.slice (some ⟨w.heap.size, 0, none⟩) s.length cap, w1.freeze { block := w.heap.size, off := all.length } 1, β ++ [some (w.heap.size, 0, cap)], LeA.snoc _ _, ?_, ⟨w.heap.size, 0, cap, cap, hlast, rfl, hge, by omega⟩, ?_⟩
  · have earr : Array.map (fun b : UInt8 => Value.int .u8 (b.toNat : Int)) (byt s).data ++ Array.replicate (cap - s.length) (.int .u8 0) = List.toArray all := by apply Array.toList_inj.1; rw [hall]; simp
    simp only [Conv.stringToBytes, Sem.run_bind, run_choose, Question.forced, Bool.false_eq_true, if_false, Question.cut, byt_size, ← hcap, Result.andThen_ok, earr, World.drew_eq, run_new, Sem.run_pure]
    have : (w.drew).heap.size = w.heap.size := rfl
    rw [this, ← hw1, m1]; simp
  · refine hw.rename ⟨m4.os.trans (by rw [hw1]; rfl), m4.tape.trans (by rw [hw1]; rfl), m4.output.trans (by rw [hw1]; rfl)⟩ m2 hw.size (fun j x e => ⟨e, fun b' f' n' e2 => ?_⟩) (fun c o hc e => ?_) (by rw [m5, hs1]; omega) ?_
    · have := (hw.new j b' f' n' e2).2; omega
    · rw [m6 c hc, hw1]
      show (w.heap.push _)[c]? = _
      have := lt_of_some e
      rw [Array.getElem?_push, if_neg (by omega)]; exact e
    · refine ⟨all, fr', rfl, hlen, by simp [digitsV]; omega, hlen ▸ m3, ?_⟩
      have : (digitsV s).length = s.length := by simp [digitsV]
      rw [this, List.drop_zero, hall, List.take_append_of_le_length (by omega), List.take_of_length_le (by omega)]
      exact digits_ok h

/-! ### what an operation that changes memory comes to -/
def EfO (Pr : Program) (B : World) (ω : List Value) (β : List (Option B3)) (s : Sem Next) (w : World) (v : V) (H' : HV) (nx' : Nat) : Prop :=
  ∃ x w' β', LeA β β' ∧ (s.run Pr w = .ok (.value x) w' ∨ (s.run Pr w = .ok .skip w' ∧ x = undef)) ∧ Den ω β' v x ∧ WR B ω H' nx' β' w'
theorem EfR.o {s : Sem Value} {s' : Sem Next} {v : V} {H' : HV} {nx' : Nat} (h : EfR Pr B ω β s w v H' nx') (e : s' = (do pure (.value (← s)))) : EfO Pr B ω β s' w v H' nx' := by
  obtain ⟨x, w', β', a, b, c, d⟩ := h
  exact ⟨x, w', β', a, .inl (by rw [e]; simp [b]), c, d⟩
theorem EfO.skip {s : Sem Unit} {s' : Sem Next} {H' : HV} (h : ∃ w', s.run Pr w = .ok () w' ∧ WR B ω H' nx β w') (e : s' = (do s; pure .skip)) : EfO Pr B ω β s' w (.tup []) H' nx := by
  obtain ⟨w', a, b⟩ := h
  exact ⟨undef, w', β, LeA.refl _, .inr ⟨by rw [e]; simp [a], rfl⟩, ⟨[], rfl, DenL.nil_iff.2 rfl⟩, b⟩
theorem EfO.val {s : Sem Value} {s' : Sem Next} {v : V} {H' : HV} (h : ∃ x w', s.run Pr w = .ok x w' ∧ Den ω β v x ∧ WR B ω H' nx β w') (e : s' = (do pure (.value (← s)))) : EfO Pr B ω β s' w v H' nx := by
  obtain ⟨x, w', a, b, c⟩ := h
  exact ⟨x, w', β, LeA.refl _, .inl (by rw [e]; simp [a]), b, c⟩
theorem args_arr {args : Array Operand} {ρ : Operand → Value} {l : List Value} (h : args.toList.map ρ = l) : args.map ρ = List.toArray l := by apply Array.toList_inj.1; simpa using h
theorem map_some1 {α β : Type} {o : Option α} {f : α → β} {y : β} (h : o.map f = some y) : ∃ x, o = some x ∧ f x = y := Option.map_eq_some_iff.1 h

/-- what an operation that makes a new block comes to -/
def NwO (Pr : Program) (ω : List Value) (β : List (Option B3)) (s : Sem Next) (w : World) (mk : Nat → V) (nb : NB) : Prop :=
  ∃ x ob m, s.run Pr w = .ok (.value x) (w.alloc ob) ∧ HOR ω β 0 m nb.ho ob ∧ ∀ β' i, bt β' i = some (w.heap.size, 0, m) → Den ω β' (mk i) x
theorem NwR.o {s : Sem Value} {s' : Sem Next} {mk : Nat → V} {nb : NB} (h : NwR Pr ω β s w mk nb) (e : s' = (do pure (.value (← s)))) : NwO Pr ω β s' w mk nb := by
  obtain ⟨x, ob, m, a, b, c⟩ := h
  exact ⟨x, ob, m, by rw [e]; simp [a], b, c⟩
theorem NwO.ef (hw : WR B ω H nx β w) {s : Sem Next} {mk : Nat → V} {nb : NB} (h : NwO Pr ω β s w mk nb) : EfO Pr B ω β s w (mk nx) (mkV H nx nb.ho) (nx + 1) := by
  obtain ⟨x, ob, m, h1, h2, h3⟩ := h
  exact ⟨x, _, β ++ [some (w.heap.size, 0, m)], LeA.snoc _ _, .inl h1, h3 _ _ (by rw [← hw.len]; simp), hw.fresh (h2.mono (Le.snoc _ _))⟩
noncomputable def newAo (Pr : Program) (ev : Operand → Option V) (o : Op) : Option ((Nat → V) × NB) := match o with
  | .alloc t => match zeV Pr t with
    | some z => rowN t z.cells (fun nx => .ptr nx 0)
    | none => none
  | .box t x => match ev x with
    | some v => rowN t v.cells (fun nx => .ptr nx 0)
    | none => none
  | .buildSlice t n ps => match partsA ev ps.toList with
    | some vs => buildSlN Pr t n vs
    | none => none
  | .makeSlice t l c => match ev l, ev c with
    | some l, some c => makeSlN Pr t l c
    | _, _ => none
  | .makeMap _ none => some (fun nx => .map nx, .map)
  | _ => none
theorem newA_eq (ev : Operand → Option V) (o : Op) : newA Pr ev o = newAo Pr ev o := by
  cases o <;> first | rfl | skip
  case makeMap t r => cases r <;> rfl
theorem newA_ok {ev : Operand → Option V} {ρ : Operand → Value} {o : Op} {ty : TypeId} {mk : Nat → V} {nb : NB} (h : newA Pr ev o = some (mk, nb)) (hev : EvR ω β ev ρ o.operands.toList) : NwO Pr ω β (ex ρ o ty) w mk nb := by
  have one : ∀ x, x ∈ o.operands.toList → ∀ u, ev x = some u → Den ω β u (ρ x) := hev
  rw [newA_eq] at h
  cases o <;> simp only [newAo] at h <;> first | (cases h; done) | skip
  case alloc t =>
    split at h
    · rename_i z hz
      exact (alloc_ok hz h).o rfl
    · cases h
  case box t x =>
    split at h
    · rename_i u hu
      exact (box_ok (one x (by simp [Op.operands]) _ hu) h).o rfl
    · cases h
  case buildSlice t n ps =>
    split at h
    · rename_i vs hvs
      have := buildSlN_ok (w := w) h (partsA_ok hvs (fun x hx => one x (by simpa [Op.operands] using hx)))
      refine this.o ?_
      have e : (ps.map fun p => (p.1, ρ p.2)) = List.toArray (ps.toList.map fun p => (p.1, ρ p.2)) := by apply Array.toList_inj.1; simp
      show (do pure (.value (← Instr.buildSlice t n (ps.map fun p => (p.1, ρ p.2)))) : Sem Next) = _
      rw [e]
    · cases h
  case makeSlice t l c =>
    split at h
    · rename_i lv cv h1 h2
      exact (makeSlN_ok h (one l (by simp [Op.operands]) _ h1) (one c (by simp [Op.operands]) _ h2)).o rfl
    · cases h
  case makeMap t r =>
    cases r with
    | some r => cases h
    | none =>
      simp only [Option.some.injEq, Prod.mk.injEq] at h
      obtain ⟨rfl, rfl⟩ := h
      exact ⟨.map (some w.heap.size), .map #[] 0, 0, by simp [ex, execOp, Instr.makeMap], ⟨[], rfl, rfl⟩, fun β' i e => ⟨w.heap.size, 0, 0, e, rfl⟩⟩

noncomputable def evEo (Pr : Program) (ev : Operand → Option V) (H : HV) (nx : Nat) (o : Op) : Option (List (V × HV × Nat)) := match o with
  | .alloc t => newE H nx (newA Pr ev (.alloc t))
  | .box t x => newE H nx (newA Pr ev (.box t x))
  | .store t a x => match ev a, ev x with
    | some a, some v => (storeA Pr H t a v).map fun h => [(.tup [], h, nx)]
    | _, _ => none
  | .buildSlice t n ps => newE H nx (newA Pr ev (.buildSlice t n ps))
  | .makeSlice t l c => newE H nx (newA Pr ev (.makeSlice t l c))
  | .makeMap t r => newE H nx (newA Pr ev (.makeMap t r))
  | .mapUpdate t m k x => match ev m, ev k, ev x with
    | some m, some k, some x => (mapUpA Pr H t m k x).map fun h => [(.tup [], h, nx)]
    | _, _, _ => none
  | .insert t m k x => match ev m, ev k, ev x with
    | some m, some k, some x => (mapUpA Pr H t m k x).map fun h => [(.tup [], h, nx)]
    | _, _, _ => none
  | .range t x => match ev x with
    | some x => (rangeA Pr H nx t x).map ([·])
    | none => none
  | .next it false => match ev it with
    | some it => (nextA H it).map fun l => l.map fun p => (p.1, p.2, nx)
    | none => none
  | .entry it => match ev it with
    | some it => (entryA H it).map fun v => [(v, H, nx)]
    | none => none
  | .convert s t x => match Pr.underlying s, Pr.underlying t, ev x with
    | some .string, some (.slice e), some (.str b) => match Pr.underlying e with
      | some (.int .u8) => bif Nat.ble b.length 1000000 then some [(.su nx 0 b.length 1, mkV H nx (.cells e (digitsV b)), nx + 1)] else none
      | _ => none
    | some (.slice _), some (.slice e), some (.sl i o l c) => match Pr.underlying e, clV H i with
      | some (.int .u8), some _ => bif Nat.beq s t then some [(.sl i o l c, H, nx)] else none
      | _, _ => none
    | some (.slice _), some (.slice e), some (.su i o l z) => match Pr.underlying e, clV H i with
      | some (.int .u8), some _ => bif Nat.beq s t then some [(.su i o l z, H, nx)] else none
      | _, _ => none
    | _, _, _ => none
  | .call { callee := .builtin .append, args, argTypes } => match optL ev args.toList, argTypes.toList with
    | some [s, x], [t, t2] => (appendA Pr H nx t t2 s x).map ([·])
    | _, _ => none
  | .call { callee := .builtin .copy, args, argTypes } => match optL ev args.toList, argTypes.toList with
    | some [d, s], t :: _ => (copyA Pr H t d s).map fun p => [(p.1, p.2, nx)]
    | _, _ => none
  | .call { callee := .builtin .delete, args, argTypes } => match optL ev args.toList, argTypes.toList with
    | some [m, k], t :: _ => (delA Pr H t m k).map fun h => [(.tup [], h, nx)]
    | _, _ => none
  | .call { callee := .builtin .clear, args, argTypes } => match optL ev args.toList, argTypes.toList with
    | some [s], t :: _ => (clearA Pr H t s).map fun h => [(.tup [], h, nx)]
    | _, _ => none
  | _ => none

theorem evE_eq (ev : Operand → Option V) (H : HV) (nx : Nat) (o : Op) : evE Pr ev H nx o = evEo Pr ev H nx o := by
  cases o <;> first | rfl | skip
  case next it q => cases q <;> rfl
  case call c => obtain ⟨callee, args, ats⟩ := c; cases callee <;> first | rfl | (rename_i bi; cases bi <;> rfl)

theorem evE_ok (hw : WR B ω H nx β w) {ev : Operand → Option V} {ρ : Operand → Value} {o : Op} {ty : TypeId} {outs : List (V × HV × Nat)} (h : evE Pr ev H nx o = some outs) (hev : EvR ω β ev ρ o.operands.toList) : ∃ p ∈ outs, EfO Pr B ω β (ex ρ o ty) w p.1 p.2.1 p.2.2 := by
  have one : ∀ x, x ∈ o.operands.toList → ∀ u, ev x = some u → Den ω β u (ρ x) := hev
  have newOk : newE H nx (newA Pr ev o) = some outs → ∃ p ∈ outs, EfO Pr B ω β (ex ρ o ty) w p.1 p.2.1 p.2.2 := by
    intro h
    unfold newE at h
    split at h
    · rename_i mk nb e
      simp only [Option.some.injEq] at h; subst h
      exact ⟨_, List.mem_singleton.2 rfl, (newA_ok e hev).ef hw⟩
    · cases h
  rw [evE_eq] at h
  cases o <;> simp only [evEo] at h <;> first | (cases h; done) | skip
  case alloc t => exact newOk h
  case box t x => exact newOk h
  case buildSlice t n ps => exact newOk h
  case makeMap t r => exact newOk h
  case makeSlice t l c => exact newOk h
  case insert t m k x =>
    split at h
    · rename_i mv kv xv h1 h2 h3
      obtain ⟨p, h4, rfl⟩ := map_some1 h
      exact ⟨_, List.mem_singleton.2 rfl, EfO.skip (mapUpA_ok hw h4 (one m (by simp [Op.operands]) _ h1) (one k (by simp [Op.operands]) _ h2) (one x (by simp [Op.operands]) _ h3)) rfl⟩
    · cases h
  case store t a x =>
    split at h
    · rename_i av xv h1 h2
      obtain ⟨p, h4, rfl⟩ := map_some1 h
      exact ⟨_, List.mem_singleton.2 rfl, EfO.skip (storeA_ok hw h4 (one a (by simp [Op.operands]) _ h1) (one x (by simp [Op.operands]) _ h2)) rfl⟩
    · cases h
  case convert s t x =>
    split at h
    · rename_i e b h1 h2 h3
      split at h
      · rename_i h4
        obtain ⟨h5, h6⟩ := bcond h
        simp only [Option.some.injEq] at h6; subst h6
        have dx := one x (by simp [Op.operands]) _ h3
        simp only [Den] at dx; obtain ⟨hx, hb⟩ := dx
        obtain ⟨y, w', β', a1, a2, a3, a4⟩ := s2b_ok (Pr := Pr) (e := e) hw hb
        exact ⟨_, List.mem_singleton.2 rfl, y, w', β', a1, .inl (by simp [ex, execOp, hx, convert, und h1, und h2, und h4, a2]), a3, a4⟩
      · cases h
    · rename_i e1 e i o l c h1 h2 h3
      split at h
      · rename_i t' h4 h5
        obtain ⟨h6, h7⟩ := bcond h
        have h6 := Nat.eq_of_beq_eq_true h6
        simp only [Option.some.injEq] at h7; subst h7
        have dx := one x (by simp [Op.operands]) _ h3
        have dx' := dx
        simp only [Den] at dx; obtain ⟨b, f, n, hb, hx, _⟩ := dx
        obtain ⟨w', a1, a2⟩ := keep_ok (l := l) (c := c) (o := o) hw h1 h2 h4 h6 (clV_ok h5) hb
        exact ⟨_, List.mem_singleton.2 rfl, ρ x, w', β, LeA.refl _, .inl (by simp [ex, execOp, hx, a1]), dx', a2⟩
      · cases h
    · rename_i e1 e i o l z h1 h2 h3
      split at h
      · rename_i t' h4 h5
        obtain ⟨h6, h7⟩ := bcond h
        have h6 := Nat.eq_of_beq_eq_true h6
        simp only [Option.some.injEq] at h7; subst h7
        have dx := one x (by simp [Op.operands]) _ h3
        have dx' := dx
        simp only [Den] at dx; obtain ⟨b, f, n, c, hb, hx, _⟩ := dx
        obtain ⟨w', a1, a2⟩ := keep_ok (l := l) (c := c) (o := o) hw h1 h2 h4 h6 (clV_ok h5) hb
        exact ⟨_, List.mem_singleton.2 rfl, ρ x, w', β, LeA.refl _, .inl (by simp [ex, execOp, hx, a1]), dx', a2⟩
      · cases h
    · cases h
  case mapUpdate t m k x =>
    split at h
    · rename_i mv kv xv h1 h2 h3
      obtain ⟨p, h4, rfl⟩ := map_some1 h
      exact ⟨_, List.mem_singleton.2 rfl, EfO.skip (mapUpA_ok hw h4 (one m (by simp [Op.operands]) _ h1) (one k (by simp [Op.operands]) _ h2) (one x (by simp [Op.operands]) _ h3)) rfl⟩
    · cases h
  case range t x =>
    split at h
    · rename_i xv h1
      obtain ⟨p, h4, rfl⟩ := map_some1 h
      exact ⟨_, List.mem_singleton.2 rfl, (rangeA_ok hw h4 (one x (by simp [Op.operands]) _ h1)).o rfl⟩
    · cases h
  case next it q =>
    cases q with
    | true => cases h
    | false =>
      simp only [] at h
      split at h
      · rename_i xv h1
        obtain ⟨l, h4, rfl⟩ := map_some1 h
        obtain ⟨p, hp, hh⟩ := nextA_ok (Pr := Pr) (ty := ty) hw h4 (one it (by simp [Op.operands]) _ h1)
        exact ⟨(p.1, p.2, nx), List.mem_map.2 ⟨p, hp, rfl⟩, EfO.val hh rfl⟩
      · cases h
  case entry it =>
    split at h
    · rename_i xv h1
      obtain ⟨u, h4, rfl⟩ := map_some1 h
      obtain ⟨x, h5, h6⟩ := entryA_ok (Pr := Pr) hw h4 (one it (by simp [Op.operands]) _ h1)
      exact ⟨_, List.mem_singleton.2 rfl, EfO.val ⟨x, w, h5, h6, hw⟩ rfl⟩
    · cases h
  case call c =>
    obtain ⟨callee, args, ats⟩ := c
    cases callee with
    | value f => simp at h
    | invoke r m => simp at h
    | builtin bi =>
      have hop : (Op.call { callee := .builtin bi, args := args, argTypes := ats }).operands.toList = args.toList := by simp [Op.operands, Call.operands]
      rw [hop] at one hev
      cases bi <;> simp only [] at h <;> first | (cases h; done) | skip
      case append =>
        split at h
        · rename_i s x t t2 h1 h2
          obtain ⟨p, h3, rfl⟩ := map_some1 h
          have d := optL_ok h1 hev
          obtain ⟨sv, r, h4, d1, d2⟩ := DenL.cons_iff.1 d
          obtain ⟨xv, r2, rfl, d3, d4⟩ := DenL.cons_iff.1 d2
          rw [DenL.nil_iff.1 d4] at h4
          have e1 := args_arr h4
          have e2 : ats = #[t, t2] := by apply Array.toList_inj.1; simp [h2]
          refine ⟨p, by simp, (appendA_ok (ty := ty) hw h3 d1 d3).o ?_⟩
          simp only [ex, execOp, resolve, invoke, builtin, e1, e2]; rfl
        · cases h
      case copy =>
        split at h
        · rename_i s x t ts h1 h2
          obtain ⟨p, h3, rfl⟩ := map_some1 h
          have d := optL_ok h1 hev
          obtain ⟨sv, r, h4, d1, d2⟩ := DenL.cons_iff.1 d
          obtain ⟨xv, r2, rfl, d3, d4⟩ := DenL.cons_iff.1 d2
          rw [DenL.nil_iff.1 d4] at h4
          have e1 := args_arr h4
          have e2 : ats = List.toArray (t :: ts) := by apply Array.toList_inj.1; simp [h2]
          refine ⟨_, List.mem_singleton.2 rfl, EfO.val (copyA_ok (ty := ty) (ts := ts) hw h3 d1 d3) ?_⟩
          simp only [ex, execOp, resolve, invoke, builtin, e1, e2]; rfl
        · cases h
      case delete =>
        split at h
        · rename_i s x t ts h1 h2
          obtain ⟨p, h3, rfl⟩ := map_some1 h
          have d := optL_ok h1 hev
          obtain ⟨sv, r, h4, d1, d2⟩ := DenL.cons_iff.1 d
          obtain ⟨xv, r2, rfl, d3, d4⟩ := DenL.cons_iff.1 d2
          rw [DenL.nil_iff.1 d4] at h4
          have e1 := args_arr h4
          have e2 : ats = List.toArray (t :: ts) := by apply Array.toList_inj.1; simp [h2]
          obtain ⟨w', a1, a2⟩ := delA_ok (Pr := Pr) (t2 := t) (ty := ty) (ts := ts) hw h3 d1 d3
          refine ⟨_, List.mem_singleton.2 rfl, EfO.val ⟨.tuple #[], w', a1, ⟨[], rfl, DenL.nil_iff.2 rfl⟩, a2⟩ ?_⟩
          simp only [ex, execOp, resolve, invoke, builtin, e1, e2]; rfl
        · cases h
      case clear =>
        split at h
        · rename_i s t ts h1 h2
          obtain ⟨p, h3, rfl⟩ := map_some1 h
          have d := optL_ok h1 hev
          obtain ⟨sv, r, h4, d1, d2⟩ := DenL.cons_iff.1 d
          rw [DenL.nil_iff.1 d2] at h4
          have e1 := args_arr h4
          have e2 : ats = List.toArray (t :: ts) := by apply Array.toList_inj.1; simp [h2]
          obtain ⟨w', a1, a2⟩ := clearA_ok (Pr := Pr) (ty := ty) (ts := ts) hw h3 d1
          refine ⟨_, List.mem_singleton.2 rfl, EfO.val ⟨.tuple #[], w', a1, ⟨[], rfl, DenL.nil_iff.2 rfl⟩, a2⟩ ?_⟩
          simp only [ex, execOp, resolve, invoke, builtin, e1, e2]; rfl
        · cases h

end Go.Proofs.YtbgkljpbemehiaaGreat.Sx
