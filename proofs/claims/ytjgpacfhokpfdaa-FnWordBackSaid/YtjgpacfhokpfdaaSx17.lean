/- Regions that draw their order. Any program. -/
import Derived.Test.YtjgpacfhokpfdaaSx16
set_option linter.unusedVariables false
set_option linter.unusedSimpArgs false
namespace Go.Sx
open Go.RowKit

/-! ### masks -/
theorem bitsOf_mem (c : Nat) : ∀ (l : List Nat) (acc : Nat), (∀ k, acc.testBit k = true → (bitsOf c l acc).testBit k = true) ∧ (∀ i ∈ l, (bitsOf c l acc).testBit (2 * i + c) = true)
  | [], acc => ⟨fun _ h => h, (by intro i hi; cases hi)⟩
  | i :: r, acc => by
    obtain ⟨h1, h2⟩ := bitsOf_mem c r (acc ||| 2 ^ (2 * i + c))
    refine ⟨fun k hk => h1 k (by rw [Nat.testBit_or, hk]; rfl), fun j hj => ?_⟩
    rcases List.mem_cons.1 hj with rfl | hj
    · exact h1 _ (by rw [Nat.testBit_or, Nat.testBit_two_pow_self, Bool.or_true])
    · exact h2 j hj
theorem foldMask (acc : List Nat) : ∀ (l : List Edge) (s i : Nat), (l.foldl (fun s e => cond (Region.binds .any e) (s ||| 2 ^ e.on ||| acc.getD e.on 0) s) s).testBit i = true ↔ s.testBit i = true ∨ ∃ e ∈ l, Region.binds .any e = true ∧ (i = e.on ∨ (acc.getD e.on 0).testBit i = true)
  | [], s, i => by simp
  | e :: l, s, i => by
    rw [List.foldl_cons, foldMask acc l]
    cases hb : Region.binds .any e with
    | false =>
      simp only [cond_false, List.mem_cons]
      constructor
      · rintro (h | ⟨e', h1, h2⟩)
        · exact .inl h
        · exact .inr ⟨e', .inr h1, h2⟩
      · rintro (h | ⟨e', rfl | h1, h2⟩)
        · exact .inl h
        · rw [hb] at h2; cases h2.1
        · exact .inr ⟨e', h1, h2⟩
    | true =>
      simp only [cond_true, List.mem_cons, Nat.testBit_or, Bool.or_eq_true, Nat.testBit_two_pow, decide_eq_true_eq]
      constructor
      · rintro (((h | h) | h) | ⟨e', h1, h2⟩)
        · exact .inl h
        · exact .inr ⟨e, .inl rfl, hb, .inl h.symm⟩
        · exact .inr ⟨e, .inl rfl, hb, .inr h⟩
        · exact .inr ⟨e', .inr h1, h2⟩
      · rintro (h | ⟨e', rfl | h1, h2, h3⟩)
        · exact .inl (.inl (.inl h))
        · rcases h3 with h3 | h3
          · exact .inl (.inl (.inr h3.symm))
          · exact .inl (.inr h3)
        · exact .inr ⟨e', h1, h2, h3⟩
def MaskOk (M : List Nat) (acc : List Nat) (o : Oper) (m : Nat) : Prop := ∀ i, m.testBit i = true ↔ ∃ e ∈ o.after.toList, Region.binds .any e = true ∧ (i = e.on ∨ (acc.getD e.on 0).testBit i = true)
theorem beforeM_spec : ∀ (ops : List Oper) (acc : List Nat), ∃ ms, beforeM ops acc = acc ++ ms ∧ ms.length = ops.length ∧ ∀ j o, ops[j]? = some o → ∃ m, ms[j]? = some m ∧ MaskOk ms (acc ++ ms.take j) o m
  | [], acc => ⟨[], by simp [beforeM], rfl, (by intro j o h; cases h)⟩
  | o :: r, acc => by
    obtain ⟨ms, h1, h2, h3⟩ := beforeM_spec r (acc ++ [o.after.toList.foldl (fun s e => cond (Region.binds .any e) (s ||| 2 ^ e.on ||| acc.getD e.on 0) s) 0])
    refine ⟨_ :: ms, by rw [beforeM, h1, List.append_assoc]; rfl, by simp [h2], fun j o' hj => ?_⟩
    cases j with
    | zero =>
      simp only [List.getElem?_cons_zero, Option.some.injEq] at hj
      subst hj
      refine ⟨_, rfl, fun i => ?_⟩
      rw [foldMask]
      simp
    | succ j =>
      simp only [List.getElem?_cons_succ] at hj
      obtain ⟨m, hm, hs⟩ := h3 j o' hj
      refine ⟨m, by simpa using hm, fun i => ?_⟩
      have := hs i
      rw [List.append_assoc] at this
      exact this
theorem befOk_spec : ∀ (ms : List Nat) (k : Nat), befOk ms k = true → ∀ j m, ms[j]? = some m → m < 2 ^ (k + j)
  | [], _, _, j, m, h => by cases h
  | b :: r, k, hb, j, m, h => by
    simp only [befOk, Bool.and_eq_true] at hb
    cases j with
    | zero =>
      simp only [List.getElem?_cons_zero, Option.some.injEq] at h
      subst h
      have := hb.1
      simpa [Nat.blt_eq] using this
    | succ j =>
      have := befOk_spec r (k + 1) hb.2 j m (by simpa using h)
      rw [show k + (j + 1) = k + 1 + j from by omega]
      exact this

/-! ### overlays -/
section
variable {X : Type}
def ap (p : Nat → Option X) (f : Nat → X) : Nat → X := fun t => (p t).getD (f t)
def runP (ps : List (Nat → Option X)) (f : Nat → X) : Nat → X := ps.foldl (fun f p => ap p f) f
def ov (D : Nat → Bool) : List (Nat → Option X) → Nat → (Nat → X) → Nat → X
  | [], _, f => f
  | p :: ps, i, f => ov D ps (i + 1) (if D i then ap p f else f)
theorem ov_congr {D D' : Nat → Bool} {t : Nat} : ∀ (ps : List (Nat → Option X)) (k : Nat) (f f' : Nat → X), (∀ (i : Nat) p, ps[i]? = some p → D (k + i) ≠ D' (k + i) → p t = none) → f t = f' t → ov D ps k f t = ov D' ps k f' t
  | [], _, f, f', _, h => h
  | p :: ps, k, f, f', hd, h => by
    refine ov_congr ps (k + 1) _ _ (fun i q hi hne => hd (i + 1) q (by simpa using hi) (by rwa [show k + (i + 1) = k + 1 + i from by omega])) ?_
    have h0 := hd 0 p rfl
    rw [Nat.add_zero] at h0
    cases h1 : D k <;> cases h2 : D' k <;> simp only [if_true, if_false, Bool.false_eq_true, ap, h]
    · have := h0 (by rw [h1, h2]; decide)
      rw [this, Option.getD_none]
    · have := h0 (by rw [h1, h2]; decide)
      rw [this, Option.getD_none]
theorem ov_last {D : Nat → Bool} {t : Nat} {x : X} : ∀ (ps : List (Nat → Option X)) (k : Nat) (f : Nat → X) (j : Nat) (p : Nat → Option X), ps[j]? = some p → p t = some x → D (k + j) = true → (∀ (i : Nat) q, j < i → ps[i]? = some q → D (k + i) = true → q t = none) → ov D ps k f t = x
  | [], _, _, _, _, h, _, _, _ => by cases h
  | p0 :: ps, k, f, 0, p, h, hx, hD, hl => by
    simp only [List.getElem?_cons_zero, Option.some.injEq] at h
    subst h
    show ov D ps (k + 1) _ t = x
    have key : ∀ (ps : List (Nat → Option X)) (k : Nat) (f : Nat → X), (∀ (i : Nat) q, ps[i]? = some q → D (k + i) = true → q t = none) → ov D ps k f t = f t := by
      intro ps
      induction ps with
      | nil => intro k f _; rfl
      | cons p ps ih =>
        intro k f hq
        show ov D ps (k + 1) _ t = _
        rw [ih (k + 1) _ fun i q hi hd => hq (i + 1) q (by simpa using hi) (by rwa [show k + (i + 1) = k + 1 + i from by omega])]
        cases h1 : D k with
        | false => rfl
        | true =>
          have := hq 0 p rfl h1
          simp only [if_true, ap, this, Option.getD_none]
    rw [key ps (k + 1) _ fun i q hi hd => hl (i + 1) q (Nat.succ_pos _) (by simpa using hi) (by rwa [show k + (i + 1) = k + 1 + i from by omega])]
    rw [Nat.add_zero] at hD
    simp only [hD, if_true, ap, hx, Option.getD_some]
  | p0 :: ps, k, f, j + 1, p, h, hx, hD, hl => by
    exact ov_last ps (k + 1) _ j p (by simpa using h) hx (by rwa [show k + 1 + j = k + (j + 1) from by omega]) fun i q hij hi hd => hl (i + 1) q (by omega) (by simpa using hi) (by rwa [show k + (i + 1) = k + 1 + i from by omega])
theorem ov_none {D : Nat → Bool} : ∀ (ps : List (Nat → Option X)) (k : Nat) (f : Nat → X), (∀ i, k ≤ i → i < k + ps.length → D i = false) → ov D ps k f = f
  | [], _, _, _ => rfl
  | p :: ps, k, f, h => by
    show ov D ps (k + 1) _ = f
    rw [h k (Nat.le_refl _) (by simp only [List.length_cons]; omega)]
    exact ov_none ps (k + 1) f fun i h1 h2 => h i (by omega) (by simp only [List.length_cons]; omega)
theorem ov_lt {D : Nat → Bool} : ∀ (ps : List (Nat → Option X)) (k j : Nat) (f : Nat → X), (∀ i, k ≤ i → (D i = decide (i < k + j))) → ov D ps k f = runP (ps.take j) f
  | [], _, j, f, _ => by simp [ov, runP]
  | p :: ps, k, 0, f, h => by
    rw [ov_none _ _ _ fun i h1 _ => by rw [h i h1]; simpa using h1]; rfl
  | p :: ps, k, j + 1, f, h => by
    show ov D ps (k + 1) _ = _
    rw [h k (Nat.le_refl _)]
    have : decide (k < k + (j + 1)) = true := by simp
    rw [this, if_pos rfl, List.take_succ_cons]
    exact ov_lt ps (k + 1) j _ fun i hi => by rw [h i (by omega), show k + (j + 1) = k + 1 + j from by omega]
theorem ov_app {D : Nat → Bool} : ∀ (ps qs : List (Nat → Option X)) (k : Nat) (f : Nat → X), ov D (ps ++ qs) k f = ov D qs (k + ps.length) (ov D ps k f)
  | [], _, _, _ => rfl
  | p :: ps, qs, k, f => by
    show ov D (ps ++ qs) (k + 1) _ = _
    rw [ov_app ps qs (k + 1)]
    rw [show k + 1 + ps.length = k + (p :: ps).length from by simp only [List.length_cons]; omega]
    rfl
theorem ov_snoc {D : Nat → Bool} {ps : List (Nat → Option X)} {f : Nat → X} {n : Nat} {p : Nat → Option X} (hp : ps[n]? = some p) : ov D (ps.take (n + 1)) 0 f = if D n then ap p (ov D (ps.take n) 0 f) else ov D (ps.take n) 0 f := by
  have hl : n < ps.length := (List.getElem?_eq_some_iff.1 hp).1
  have : ps.take (n + 1) = ps.take n ++ [p] := by
    rw [List.take_succ_eq_append_getElem hl, (List.getElem?_eq_some_iff.1 hp).2]
  rw [this, ov_app, List.length_take, Nat.min_eq_left (Nat.le_of_lt hl), Nat.zero_add]
  rfl
theorem ov_all {ps : List (Nat → Option X)} {f : Nat → X} : ov (fun _ => true) ps 0 f = runP ps f := by
  unfold runP
  have : ∀ (ps : List (Nat → Option X)) (k : Nat) (f : Nat → X), ov (fun _ => true) ps k f = ps.foldl (fun f p => ap p f) f := by
    intro ps
    induction ps with
    | nil => intro k f; rfl
    | cons p ps ih => intro k f; exact ih (k + 1) _
  exact this ps 0 f
/-- What only keeps a value may be left out. -/
theorem ov_soft {V : X → X → Prop} (hr : ∀ x, V x x) (ht : ∀ x y z, V x y → V y z → V x z) (hsy : ∀ x y, V x y → V y x) {ps : List (Nat → Option X)} {f : Nat → X} {i : Nat} {hard : Nat → Bool}
    (hs : ∀ k p y, ps[k]? = some p → p i = some y → hard k = false → V (runP (ps.take k) f i) y) {D : Nat → Bool}
    (hc : ∀ k p y, ps[k]? = some p → p i = some y → D k = true → ∀ q, q < k → hard q = true → D q = true) : V (ov D ps 0 f i) (ov (fun k => D k && hard k) ps 0 f i) := by
  have hA : ∀ n, n ≤ ps.length → V (runP (ps.take n) f i) (ov hard (ps.take n) 0 f i) := by
    intro n
    induction n with
    | zero => intro _; exact hr _
    | succ n ih =>
      intro hn
      have hp : ps[n]? = some ps[n] := List.getElem?_eq_getElem hn
      have e1 := congrFun (ov_snoc (D := fun _ => true) (f := f) hp) i
      rw [ov_all, ov_all, if_pos rfl] at e1
      rw [e1, congrFun (ov_snoc (D := hard) (f := f) hp) i]
      cases hx : ps[n] i with
      | none =>
        have : ap ps[n] (runP (ps.take n) f) i = runP (ps.take n) f i := by unfold ap; rw [hx]; rfl
        rw [this]
        split
        · have : ap ps[n] (ov hard (ps.take n) 0 f) i = ov hard (ps.take n) 0 f i := by unfold ap; rw [hx]; rfl
          rw [this]; exact ih (by omega)
        · exact ih (by omega)
      | some y =>
        have e : ∀ g : Nat → X, ap ps[n] g i = y := fun g => by unfold ap; rw [hx]; rfl
        rw [e]
        cases hh : hard n with
        | true => rw [if_pos rfl, e]; exact hr _
        | false => rw [if_neg (by decide)]; exact ht _ _ _ (hsy _ _ (hs n _ y hp hx hh)) (ih (by omega))
  have hB : ∀ n, n ≤ ps.length → V (ov D (ps.take n) 0 f i) (ov (fun k => D k && hard k) (ps.take n) 0 f i) := by
    intro n
    induction n with
    | zero => intro _; exact hr _
    | succ n ih =>
      intro hn
      have hp : ps[n]? = some ps[n] := List.getElem?_eq_getElem hn
      rw [congrFun (ov_snoc (D := D) (f := f) hp) i, congrFun (ov_snoc (D := fun k => D k && hard k) (f := f) hp) i]
      cases hd : D n with
      | false => simp only [Bool.false_and, if_neg (show ¬ (false = true) by decide)]; exact ih (by omega)
      | true =>
        rw [if_pos rfl]
        cases hx : ps[n] i with
        | none =>
          have e : ∀ g : Nat → X, ap ps[n] g i = g i := fun g => by unfold ap; rw [hx]; rfl
          rw [e]
          split
          · rw [e]; exact ih (by omega)
          · exact ih (by omega)
        | some y =>
          have e : ∀ g : Nat → X, ap ps[n] g i = y := fun g => by unfold ap; rw [hx]; rfl
          rw [e]
          cases hh : hard n with
          | true =>
            have e9 : (true && true) = true := rfl
            rw [if_pos e9, e]; exact hr _
          | false =>
            have e9 : ¬ (true && false) = true := by decide
            rw [if_neg e9]
            refine ht _ _ _ (hsy _ _ (hs n _ y hp hx hh)) ?_
            have := hA n (by omega)
            have e2 : ov hard (ps.take n) 0 f i = ov (fun k => D k && hard k) (ps.take n) 0 f i := by
              refine ov_congr _ 0 _ _ (fun q p hq hne => ?_) rfl
              rw [Nat.zero_add] at hne
              have hqn : q < n := by
                have := (List.getElem?_eq_some_iff.1 hq).1
                rw [List.length_take] at this
                omega
              cases hhq : hard q with
              | false => simp [hhq] at hne
              | true =>
                have := hc n _ y hp hx hd q hqn hhq
                simp [hhq, this] at hne
            rw [← e2]; exact this
  have := hB ps.length (Nat.le_refl _)
  rwa [List.take_length] at this
end

/-! ### what a map's keys tell -/
theorem mval_madd (es : List (List Int × Int)) (k ns : List Int) : mval (madd es k) ns = mval es ns := by
  have key : ∀ (es : List (List Int × Int)) (i : Nat), mfind es k i = none → (match mfind (es ++ [(k, 0)]) ns i with | some p => p.2 | none => (0 : Int)) = (match mfind es ns i with | some p => p.2 | none => 0) := by
    intro es
    induction es with
    | nil =>
      intro i _
      simp only [List.nil_append, mfind]
      split <;> rename_i h
      · split at h
        · cases h; rfl
        · cases h
      · rfl
    | cons e es ih =>
      intro i h
      simp only [mfind] at h
      split at h
      · cases h
      · simp only [List.cons_append, mfind]
        by_cases he : e.1 = ns
        · simp only [he, if_true]
        · simp only [he, if_false]; exact ih (i + 1) h
  unfold madd
  cases hm : mfind es k 0 with
  | some p => rfl
  | none => unfold mval; exact key es 0 hm
/-- The same, but for keys that tell nothing. -/
def VEq (a b : Option Obj) : Prop := a = b ∨ ∃ T n es es', a = some (.mp T n es) ∧ b = some (.mp T n es') ∧ ∀ ns, mval es ns = mval es' ns
theorem VEq.refl (a : Option Obj) : VEq a a := .inl rfl
theorem VEq.symm (a b : Option Obj) : VEq a b → VEq b a
  | .inl h => .inl h.symm
  | .inr ⟨T, n, es, es', h1, h2, h3⟩ => .inr ⟨T, n, es', es, h2, h1, fun ns => (h3 ns).symm⟩
theorem VEq.trans (a b c : Option Obj) : VEq a b → VEq b c → VEq a c
  | .inl h, h' => by rw [h]; exact h'
  | h, .inl h' => by rw [← h']; exact h
  | .inr ⟨T, n, es, es', h1, h2, h3⟩, .inr ⟨T', n', es2, es3, h4, h5, h6⟩ => by
    rw [h2] at h4
    cases h4
    exact .inr ⟨T, n, es, es3, h1, h5, fun ns => (h3 ns).trans (h6 ns)⟩
def isLk (o : Op) : Bool := match o with
  | .lookup _ _ _ _ => true
  | _ => false
theorem wIds_mem (o : Op) {ids : List Nat} {i : Nat} (h : i ∈ ids) : 2 * i ∈ wIds o ids := by
  unfold wIds
  split
  · exact List.mem_map.2 ⟨i, h, rfl⟩
  · exact List.mem_flatMap.2 ⟨i, h, List.mem_cons_self⟩
theorem wIds_mem2 {o : Op} (ho : ∀ T m k, o ≠ .mapEntry T m k) {ids : List Nat} {i : Nat} (h : i ∈ ids) : 2 * i + 1 ∈ wIds o ids := by
  unfold wIds
  split
  · exact absurd rfl (ho _ _ _)
  · exact List.mem_flatMap.2 ⟨i, h, List.mem_cons_of_mem _ List.mem_cons_self⟩
theorem rIds_mem (o : Op) {ids : List Nat} {i : Nat} (h : i ∈ ids) : 2 * i ∈ rIds o ids ∨ (isLk o = true ∧ 2 * i + 1 ∈ rIds o ids) := by
  unfold rIds
  split
  · exact .inr ⟨rfl, List.mem_map.2 ⟨i, h, rfl⟩⟩
  · exact .inl (List.mem_map.2 ⟨i, h, rfl⟩)
theorem mapEntry_us {E : Env} {h : Hp} {T : Nat} {m k : TV} {q : SR} (hq : mapEntrySR E h T m k = some q) : ∃ id n es ns, h id = some (.mp T n es) ∧ ∀ x, q.upd x = [(id, some (.mp T n (madd es ns)))] := by
  unfold mapEntrySR at hq
  split at hq
  · split at hq
    · rename_i id cs _ _ _ T' n es ns n' hb hi hn
      obtain ⟨hc, hq2⟩ := cond_some hq
      simp only [Bool.and_eq_true] at hc
      have := Nat.eq_of_beq_eq_true hc.1
      subst this
      have hq3 : q = _ := (Option.some.inj hq2).symm
      clear hq hq2
      subst hq3
      exact ⟨id, n, es, ns, hb, fun x => rfl⟩
    · cases hq
  · cases hq
/-- A lookup tells the same where the keys tell the same. -/
theorem lookup_same {E : Env} {call : CallF} {ro : Operand → TV} {hr H : Hp} {next : Nat} {o : Oper} {q : SR} (hl : isLk o.op = true) (hq : aop E call ro hr next o = some q) (hH : ∀ id ob, hr id = some ob → VEq (some ob) (H id)) : aop E call ro H next o = some q := by
  unfold isLk at hl
  split at hl
  · rename_i T m k ok ho
    unfold aop at hq ⊢
    rw [ho] at hq ⊢
    cases ok with
    | true => cases hq
    | false =>
      simp only at hq ⊢
      have key : ∀ q, lookupSR E hr T (ro m) (ro k) = some q → lookupSR E H T (ro m) (ro k) = some q := by
        intro q hq
        unfold lookupSR at hq ⊢
        split at hq
        · rename_i id cs hm hk
          split at hq
          · rename_i T' n es ns n' hb hi hn
            rcases hH id _ hb with he | ⟨T2, n2, es2, es3, h1, h2, h3⟩
            · rw [← he, hi, hn]; exact hq
            · cases h1
              rw [h2, hi, hn]
              simp only
              rw [← h3 ns]; exact hq
          · cases hq
        · cases hq
      cases hl : lookupSR E hr T (ro m) (ro k) with
      | some q' =>
        rw [hl] at hq
        rw [key q' hl]; exact hq
      | none =>
        rw [hl] at hq
        have hq : lookupMqSR E T (ro m) (ro k) = some q := hq
        have hn : lookupSR E H T (ro m) (ro k) = none := by
          unfold lookupMqSR at hq
          split at hq
          · rename_i hm hk
            rw [hm]; rfl
          · cases hq
        rw [hn]; exact hq
  · cases hl

/-! ### a run in the text's order, as it was -/
structure Ent where
  d : Option Nat
  v : TV
  us : Upd
  n : Nat
  r : Nat
  w : Nat
def pT (e : Ent) : Nat → Option TV := fun t => if e.d = some t then some e.v else none
def lastU : Upd → Nat → Option (Option Obj)
  | [], _ => none
  | (j, o) :: r, i => (lastU r i).or (if i = j then some o else none)
def pH (e : Ent) : Nat → Option (Option Obj) := lastU e.us
theorem ap_pT (e : Ent) (σ : Nat → TV) : ap (pT e) σ = putF σ e.d e.v := by
  funext t
  unfold ap pT putF
  cases hd : e.d with
  | none => rfl
  | some d =>
    by_cases h : t = d
    · subst h; simp
    · simp [h, Ne.symm h]
theorem ap_lastU : ∀ (us : Upd) (H : Hp), ap (lastU us) H = updF H us
  | [], H => rfl
  | (j, o) :: r, H => by
    rw [updF, ← ap_lastU r]
    funext i
    show ((lastU r i).or (if i = j then some o else none)).getD (H i) = (lastU r i).getD (if i = j then o else H i)
    cases lastU r i with
    | some x => rfl
    | none =>
      simp only [Option.none_or, Option.getD_none]
      by_cases h : i = j
      · simp [h]
      · simp [h]
theorem lastU_mem : ∀ {us : Upd} {i : Nat} {x : Option Obj}, lastU us i = some x → i ∈ us.map (·.1)
  | [], _, _, h => by cases h
  | (j, o) :: r, i, x, h => by
    unfold lastU at h
    cases hr : lastU r i with
    | some y => exact List.mem_cons_of_mem _ (lastU_mem hr)
    | none =>
      rw [hr] at h
      simp only [Option.none_or] at h
      split at h
      · rename_i he; subst he; exact List.mem_cons_self
      · cases h
theorem mem_lastU : ∀ {us : Upd} {i : Nat}, i ∈ us.map (·.1) → ∃ x, lastU us i = some x
  | [], _, h => by cases h
  | (j, o) :: r, i, h => by
    unfold lastU
    cases hr : lastU r i with
    | some y => exact ⟨y, rfl⟩
    | none =>
      rcases List.mem_cons.1 h with h | h
      · exact ⟨o, by simp [h]⟩
      · obtain ⟨x, hx⟩ := mem_lastU h; rw [hr] at hx; cases hx

section
variable {E : Env} {w0 w w' : World} {T Fz0 Fz Fz' U : Nat → Prop} {h hr : Hp} {ρ ρ' : Nat → Option Value} {o : Oper} {a : Act} {σ : Nat → TV} {n : Nat} {R : Type}
/-- What an operation's guard said: that it is wanted or not. -/
def Gd (ops : Array Oper) (o : Oper) (σ : Nat → TV) (r : Nat) : Bool → Prop
  | true => o.guard = none ∨ ∃ g want t, o.guard = some (g, want) ∧ (ops[g]?).bind (·.dst) = some t ∧ σ t = .c (.bool want) ∧ r.testBit (2 * t) = true
  | false => ∃ g want t, o.guard = some (g, want) ∧ (ops[g]?).bind (·.dst) = some t ∧ (σ t = .c (.bool (!want)) ∨ σ t = .tup []) ∧ r.testBit (2 * t) = true
structure EOk (E : Env) (call : CallF) (ops : Array Oper) (o : Oper) (σ : Nat → TV) (H : Hp) (e : Ent) : Prop where
  d : e.d = o.dst
  wd : ∀ t, o.dst = some t → e.w.testBit (2 * t) = true
  wu : ∀ i ∈ e.us.map (·.1), e.w.testBit (2 * (2 * i) + 1) = true
  wv : ∀ i ∈ e.us.map (·.1), e.w.testBit (2 * (2 * i + 1) + 1) = true ∨ VEq (H i) (updF H e.us i)
  step : (∃ q x hr, aop E call (evl σ) hr e.n o = some q ∧ (∀ c ∈ q.conds, c = true) ∧ q.comp = some x ∧ e.v = q.val x ∧ e.us = q.upd x ∧ (∀ t, Operand.tmp t ∈ o.op.operands → e.r.testBit (2 * t) = true) ∧ (∀ id ob, hr id = some ob → H id = some ob ∧ (e.r.testBit (2 * (2 * id) + 1) = true ∨ isLk o.op = true ∧ e.r.testBit (2 * (2 * id + 1) + 1) = true)) ∧ Gd ops o σ e.r true)
    ∨ (e.us = [] ∧ e.v = .tup [] ∧ Gd ops o σ e.r false)
def FitP (b : Nat) (e : Ent) (i r w : Nat) : Prop := b.testBit i = true ∨ ((∀ k, w.testBit k = true → e.r.testBit k = false ∧ e.w.testBit k = false) ∧ (∀ k, e.w.testBit k = true → r.testBit k = false))
theorem fits_spec {b r w : Nat} : ∀ {hist : List Hist}, fits b r w hist = true → ∀ x ∈ hist, FitP b ⟨none, .u, [], 0, r, w⟩ x.i x.r x.w
  | [], _, x, hx => by cases hx
  | y :: ys, h, x, hx => by
    simp only [fits, Bool.and_eq_true, Bool.or_eq_true] at h
    rcases List.mem_cons.1 hx with rfl | hx
    · rcases h.1 with h1 | ⟨h1, h2⟩
      · exact .inl h1
      · have h1 := Nat.eq_of_beq_eq_true h1
        have h2 := Nat.eq_of_beq_eq_true h2
        refine .inr ⟨fun k hk => ?_, fun k hk => ?_⟩
        · have := congrArg (fun n => n.testBit k) h1
          simp only [Nat.testBit_and, Nat.testBit_or, hk, Nat.zero_testBit, Bool.true_and, Bool.or_eq_false_iff] at this
          exact this
        · have := congrArg (fun n => n.testBit k) h2
          have hk' : w.testBit k = true := hk
          simp only [Nat.testBit_and, hk', Nat.zero_testBit, Bool.and_true] at this
          exact this
    · exact fits_spec h.2 x hx

structure Trc (E : Env) (call : CallF) (ops : Array Oper) (bs : List Nat) (j : Nat) (rest : List Oper) (hist : List Hist) (s : Tm) (h : HpL) (es : List Ent) (s' : Tm) (h' : HpL) : Prop where
  len : es.length = rest.length
  slen : s'.length = s.length
  tm : tmf s' = runP (es.map pT) (tmf s)
  hp : hpf h' = runP (es.map pH) (hpf h)
  n0 : ∀ (i : Nat) e, es[i]? = some e → h.length ≤ e.n ∧ ∀ k ∈ e.us.map (·.1), k < h'.length
  hlen : h.length ≤ h'.length
  nn : ∀ (i i' : Nat) e e', es[i]? = some e → es[i']? = some e' → i < i' → ∀ k ∈ e.us.map (·.1), k < e'.n
  dst : ∀ (i : Nat) e t, es[i]? = some e → e.d = some t → t < s.length
  ok : ∀ (i : Nat) e o, es[i]? = some e → rest[i]? = some o → EOk E call ops o (runP ((es.take i).map pT) (tmf s)) (runP ((es.take i).map pH) (hpf h)) e
  fh : ∀ (i : Nat) e b, es[i]? = some e → bs[i]? = some b → ∀ x ∈ hist, FitP b e x.i x.r x.w
  ff : ∀ (i i' : Nat) e e' b', es[i]? = some e → es[i']? = some e' → bs[i']? = some b' → i < i' → FitP b' e' (j + i) e.r e.w
theorem Trc.cons {call : CallF} {ops : Array Oper} {b j : Nat} {bs : List Nat} {o : Oper} {rest : List Oper} {hist : List Hist} {s s1 s2 : Tm} {h h1 h2 : HpL} {e : Ent} {es : List Ent}
    (tr : Trc E call ops bs (j + 1) rest (⟨j, e.r, e.w⟩ :: hist) s1 h1 es s2 h2) (sl : s1.length = s.length) (t1 : tmf s1 = putF (tmf s) e.d e.v) (hp1 : hpf h1 = updF (hpf h) e.us) (hn : e.n = h.length) (hl : h.length ≤ h1.length) (hi : ∀ k ∈ e.us.map (·.1), k < h1.length)
    (hd : ∀ t, e.d = some t → t < s.length) (ok : EOk E call ops o (tmf s) (hpf h) e) (fh : ∀ x ∈ hist, FitP b e x.i x.r x.w) : Trc E call ops (b :: bs) j (o :: rest) hist s h (e :: es) s2 h2 := by
  have eT : ap (pT e) (tmf s) = tmf s1 := by rw [ap_pT, t1]
  have eH : ap (pH e) (hpf h) = hpf h1 := by rw [hp1]; exact ap_lastU ..
  refine ⟨by simp [tr.len], tr.slen.trans sl, ?_, ?_, fun i e' he => ?_, Nat.le_trans hl tr.hlen, fun i i' e1 e2 h1' h2' hlt k hk => ?_, fun i e' t he ht => ?_, fun i e' o' he ho => ?_, fun i e' b' he hb x hx => ?_, fun i i' e1 e2 b' h1' h2' hb hlt => ?_⟩
  · rw [tr.tm, ← eT]; rfl
  · rw [tr.hp, ← eH]; rfl
  · cases i with
    | zero => cases he; exact ⟨Nat.le_of_eq hn.symm, fun k hk => Nat.lt_of_lt_of_le (hi k hk) tr.hlen⟩
    | succ i => obtain ⟨a1, a2⟩ := tr.n0 i e' he; exact ⟨Nat.le_trans hl a1, a2⟩
  · cases i' with
    | zero => omega
    | succ i' =>
      cases i with
      | zero => cases h1'; exact Nat.lt_of_lt_of_le (hi k hk) (tr.n0 i' e2 h2').1
      | succ i => exact tr.nn i i' e1 e2 h1' h2' (by omega) k hk
  · cases i with
    | zero => cases he; exact hd t ht
    | succ i => rw [← sl]; exact tr.dst i e' t he ht
  · cases i with
    | zero => cases he; cases ho; exact ok
    | succ i =>
      have := tr.ok i e' o' he ho
      rw [← eT, ← eH] at this
      exact this
  · cases i with
    | zero => cases he; cases hb; exact fh x hx
    | succ i => exact tr.fh i e' b' he hb x (List.mem_cons_of_mem _ hx)
  · cases i' with
    | zero => omega
    | succ i' =>
      cases i with
      | zero => cases h1'; exact tr.fh i' e2 b' h2' hb _ List.mem_cons_self
      | succ i =>
        have := tr.ff i i' e1 e2 b' h1' h2' hb (by omega)
        rwa [show j + 1 + i = j + (i + 1) from by omega] at this
theorem restr_some {ids : List Nat} {id : Nat} {ob : Obj} (hh : restr h ids id = some ob) : h id = some ob ∧ id ∈ ids := by
  unfold restr at hh
  cases he : ids.elem id with
  | false => rw [he] at hh; cases hh
  | true => rw [he] at hh; exact ⟨hh, by simpa using he⟩
theorem stepD_trc {call : CallF} {ops : Array Oper} {b j : Nat} {hist : List Hist} {g : List Nat} {s : Tm} {h : HpL} {K : List Hist → Tm → HpL → Option R} {r : R} (hk : stepD E call b j hist g s h o K = some r)
    (hg : ∀ rr, (∀ t ∈ g, rr.testBit (2 * t) = true) → Gd ops o (tmf s) rr true) : ∃ e s1 h1, K (⟨j, e.r, e.w⟩ :: hist) s1 h1 = some r ∧ s1.length = s.length ∧ tmf s1 = putF (tmf s) e.d e.v ∧ hpf h1 = updF (hpf h) e.us ∧ e.n = h.length ∧ h.length ≤ h1.length ∧ (∀ k ∈ e.us.map (·.1), k < h1.length) ∧
      (∀ t, e.d = some t → t < s.length) ∧ EOk E call ops o (tmf s) (hpf h) e ∧ (∀ x ∈ hist, FitP b e x.i x.r x.w) := by
  unfold stepD at hk
  simp only at hk
  split at hk
  · rename_i q hq
    obtain ⟨hc, hk⟩ := guardAll_some hk
    cases hx : q.comp with
    | none => rw [hx] at hk; cases hk
    | some x =>
      rw [hx] at hk
      simp only [Option.bind_some] at hk
      obtain ⟨hf, hk⟩ := cond_some hk
      obtain ⟨s1, hk, hsl, hs⟩ := putK_some hk
      obtain ⟨h1, hk, hh, hl, hi⟩ := updK_some hk
      obtain ⟨htm, hd⟩ := tmf_len s hs
      refine ⟨⟨o.dst, q.val x, q.upd x, h.length, _, _⟩, s1, h1, hk, hsl, htm, hh, rfl, hl, hi, hd, ⟨rfl, fun t ht => ?_, fun i hi => ?_, fun i hi => ?_, .inl ⟨q, x, _, hq, hc, hx, rfl, rfl, fun t ht => ?_, fun id ob hob => ?_, hg _ fun t ht => ?_⟩⟩, fun y hy => ?_⟩
      · rw [ht]; exact (bitsOf_mem 0 [t] _).2 t List.mem_cons_self
      · exact (bitsOf_mem 0 _ _).1 _ ((bitsOf_mem 1 _ 0).2 (2 * i) (wIds_mem o.op hi))
      · by_cases hme : ∃ T m k, o.op = .mapEntry T m k
        · obtain ⟨T, m, k, ho⟩ := hme
          unfold aop at hq
          rw [ho] at hq
          obtain ⟨id, n, es, ns, hb, hu⟩ := mapEntry_us hq
          right
          have hi : i ∈ (q.upd x).map (·.1) := hi
          show VEq _ (updF _ (q.upd x) i)
          rw [hu x] at hi ⊢
          have hi : i = id := by simpa using hi
          subst hi
          refine .inr ⟨T, n, es, madd es ns, (restr_some hb).1, by simp [updF], fun k' => (mval_madd es ns k').symm⟩
        · exact .inl ((bitsOf_mem 0 _ _).1 _ ((bitsOf_mem 1 _ 0).2 (2 * i + 1) (wIds_mem2 (fun T m k he => hme ⟨T, m, k, he⟩) hi)))
      · refine (bitsOf_mem 0 _ _).2 t (List.mem_append_left _ (List.mem_flatMap.2 ⟨.tmp t, by simpa using ht, List.mem_cons_self⟩))
      · obtain ⟨h1', h2'⟩ := restr_some hob
        refine ⟨h1', ?_⟩
        rcases rIds_mem o.op h2' with h3 | ⟨h3, h4⟩
        · exact .inl ((bitsOf_mem 0 _ _).1 _ ((bitsOf_mem 1 _ 0).2 _ h3))
        · exact .inr ⟨h3, (bitsOf_mem 0 _ _).1 _ ((bitsOf_mem 1 _ 0).2 _ h4)⟩
      · exact (bitsOf_mem 0 _ _).2 t (List.mem_append_right _ ht)
      · exact fits_spec hf y hy
  · cases hk
theorem skipD_trc {call : CallF} {ops : Array Oper} {b j : Nat} {hist : List Hist} {g : List Nat} {s : Tm} {h : HpL} {K : List Hist → Tm → HpL → Option R} {r : R} (hk : skipD b j hist g s h o K = some r)
    (hg : ∀ rr, (∀ t ∈ g, rr.testBit (2 * t) = true) → Gd ops o (tmf s) rr false) : ∃ e s1 h1, K (⟨j, e.r, e.w⟩ :: hist) s1 h1 = some r ∧ s1.length = s.length ∧ tmf s1 = putF (tmf s) e.d e.v ∧ hpf h1 = updF (hpf h) e.us ∧ e.n = h.length ∧ h.length ≤ h1.length ∧ (∀ k ∈ e.us.map (·.1), k < h1.length) ∧
      (∀ t, e.d = some t → t < s.length) ∧ EOk E call ops o (tmf s) (hpf h) e ∧ (∀ x ∈ hist, FitP b e x.i x.r x.w) := by
  unfold skipD at hk
  simp only at hk
  obtain ⟨hf, hk⟩ := cond_some hk
  obtain ⟨s1, hk, hsl, hs⟩ := putK_some hk
  obtain ⟨htm, hd⟩ := tmf_len s hs
  refine ⟨⟨o.dst, .tup [], [], h.length, _, _⟩, s1, h, hk, hsl, htm, rfl, rfl, Nat.le_refl _, (by intro k hk; cases hk), hd, ⟨rfl, fun t ht => ?_, (by intro k hk; cases hk), (by intro k hk; cases hk), .inr ⟨rfl, rfl, hg _ fun t ht => ?_⟩⟩, fun y hy => ?_⟩
  · rw [ht]; exact (bitsOf_mem 0 [t] _).2 t List.mem_cons_self
  · exact (bitsOf_mem 0 _ _).2 t ht
  · exact fits_spec hf y hy
theorem runD_trc {call : CallF} {ops : Array Oper} {K : Tm → HpL → Option R} {r : R} : ∀ (rest : List Oper) (bs : List Nat) (j : Nat) (hist : List Hist) (s : Tm) (h : HpL), runD E call ops bs j rest hist s h K = some r →
    ∃ es s' h', K s' h' = some r ∧ Trc E call ops bs j rest hist s h es s' h'
  | [], bs, j, hist, s, h, hk => by
    have hk' : K s h = some r := by cases bs <;> exact hk
    exact ⟨[], s, h, hk', rfl, rfl, rfl, rfl, (by intro i e he; cases he), Nat.le_refl _, (by intro i i' e e' he; cases he), (by intro i e t he; cases he), (by intro i e o he; cases he), (by intro i e b he; cases he), (by intro i i' e e' b' he; cases he)⟩
  | o :: rest, [], j, hist, s, h, hk => by cases hk
  | o :: rest, b :: bs, j, hist, s, h, hk => by
    have fin : ∀ {s0 : Tm}, tmf s0 = tmf s → s0.length = s.length → (∃ e s1 h1, runD E call ops bs (j + 1) rest (⟨j, e.r, e.w⟩ :: hist) s1 h1 K = some r ∧ s1.length = s0.length ∧ tmf s1 = putF (tmf s0) e.d e.v ∧ hpf h1 = updF (hpf h) e.us ∧ e.n = h.length ∧ h.length ≤ h1.length ∧ (∀ k ∈ e.us.map (·.1), k < h1.length) ∧
      (∀ t, e.d = some t → t < s0.length) ∧ EOk E call ops o (tmf s0) (hpf h) e ∧ (∀ x ∈ hist, FitP b e x.i x.r x.w)) → ∃ es s' h', K s' h' = some r ∧ Trc E call ops (b :: bs) j (o :: rest) hist s h es s' h' := by
      rintro s0 hs0 hl0 ⟨e, s1, h1, hk, a1, a2, a3, a4, a5, a6, a7, a8, a9⟩
      rw [hs0] at a2 a8
      rw [hl0] at a1 a7
      obtain ⟨es, s', h', hk, tr⟩ := runD_trc rest bs (j + 1) _ s1 h1 hk
      exact ⟨e :: es, s', h', hk, tr.cons a1 a2 a3 a4 a5 a6 a7 a8 a9⟩
    simp only [runD] at hk
    cases hg : o.guard with
    | none =>
      rw [hg] at hk
      exact fin rfl rfl (stepD_trc hk fun _ _ => .inl hg)
    | some gw =>
      obtain ⟨g, want⟩ := gw
      rw [hg] at hk
      simp only at hk
      cases ht : (ops[g]?).bind (·.dst) with
      | none => rw [ht] at hk; cases hk
      | some t =>
        rw [ht] at hk
        simp only at hk
        split at hk
        · rename_i v hv
          have hv' : tmf s t = .c (.bool v) := hv
          have hset : ∀ {K' : Tm → Option R}, setK s t (.c (.bool v)) K' = some r → ∃ s1, K' s1 = some r ∧ tmf s1 = tmf s ∧ s1.length = s.length := by
            intro K' hk
            obtain ⟨h1, h2⟩ := setK_some hk
            exact ⟨_, h2, by rw [tmf_set s t _ h1, putF_same hv'], by simp⟩
          have gt : want = v → ∀ {s1 : Tm}, tmf s1 = tmf s → ∀ rr : Nat, (∀ t' ∈ [t], rr.testBit (2 * t') = true) → Gd ops o (tmf s1) rr true := fun e {s1} es1 rr hrr =>
            .inr ⟨g, want, t, hg, ht, by rw [es1, hv', e], hrr t List.mem_cons_self⟩
          have gf : want = !v → ∀ {s1 : Tm}, tmf s1 = tmf s → ∀ rr : Nat, (∀ t' ∈ [t], rr.testBit (2 * t') = true) → Gd ops o (tmf s1) rr false := fun e {s1} es1 rr hrr =>
            ⟨g, want, t, hg, ht, .inl (by rw [es1, hv', e, Bool.not_not]), hrr t List.mem_cons_self⟩
          cases v with
          | true =>
            obtain ⟨s1, hk, e1, e2⟩ := hset hk
            cases want with
            | true => simp only [cond_true, cond_false] at hk; exact fin e1 e2 (stepD_trc hk (gt rfl e1))
            | false => simp only [cond_true, cond_false] at hk; exact fin e1 e2 (skipD_trc hk (gf rfl e1))
          | false =>
            obtain ⟨s1, hk, e1, e2⟩ := hset hk
            cases want with
            | true => simp only [cond_true, cond_false] at hk; exact fin e1 e2 (skipD_trc hk (gf rfl e1))
            | false => simp only [cond_true, cond_false] at hk; exact fin e1 e2 (stepD_trc hk (gt rfl e1))
        · rename_i hv
          exact fin rfl rfl (skipD_trc hk fun rr hrr => ⟨g, want, t, hg, ht, .inr hv, hrr t List.mem_cons_self⟩)
        · cases hk
end
end Go.Sx
