/- append: a row of one's own, and what is put behind it. Any program. -/
import Derived.Maps.Keyed
import Derived.DeepKeys4
import Derived.Test.YtjgpacfhokpfdaaSx6
set_option linter.unusedVariables false
set_option linter.unusedSimpArgs false
namespace Go.Sx
open Go.RowKit

theorem run_append_at {P : Program} (w : World) (t ty e : TypeId) (i : TypeInfo) (z : Value) (size : Nat) (ht : P.underlying t = some (.slice e)) (hi : P.info? e = some i) (hz : i.zero = some z)
    (hsize : i.size = size) (hzs : z.cells.size = size) (hsz : 0 < size)
    (v : Value) (n : Nat) (xs : List Value) (hown : w.ownsRow 0 e size v n xs)
    (A : Option Addr) (m c : Nat) (news : List Value) (hl : news.length = m * size) (hA : 0 < m → ∃ a, A = some a ∧ ∀ j u, news[j]? = some u → w.cell? (a.add j) = some u) (h1 : ∀ u ∈ news, u.oneCell' = true)
    (h63 : n + m ≤ maxLen) (hbytes : (n + m) * i.bytes ≤ 140737488355328) :
    ∃ v' w', (Builtin.append_ #[t, t] ty #[v, .slice A m c]).run P w = .ok v' w' ∧ w'.ownsRow 0 e size v' (n + m) (xs ++ news) ∧ w.grownBy w' (blkV v) ∧
      (blkV v' = blkV v ∨ (blkV v' = some w.heap.size ∧ w.heap.size < w'.heap.size)) := by
  subst hsize
  have hsmall : n + m ≤ 9223372036854775807 := by simp only [maxLen] at h63; omega
  have hlen : (xs ++ news).length = (n + m) * i.size := by rw [List.length_append, hown.1, hl, Nat.add_mul]
  have grown : ∀ (old : Nat), old < n + m → ∀ (row : Option Nat),
      (w.drew.alloc (.cells (xs.toArray ++ news.toArray ++ Builtin.zeroCells z.cells (grownCap w (n + m) old e - (n + m))) e)).ownsRow 0 e i.size
        (.slice (some ⟨w.heap.size, 0, none⟩) (n + m) (grownCap w (n + m) old e)) (n + m) (xs ++ news) ∧
      w.grownBy (w.drew.alloc (.cells (xs.toArray ++ news.toArray ++ Builtin.zeroCells z.cells (grownCap w (n + m) old e - (n + m))) e)) row := by
    intro old ho row
    have hge := grownCap_ge w (n + m) old e
    have hcm : grownCap w (n + m) old e ≤ maxLen := grownCap_le_maxLen w (n + m) old e h63
    refine ⟨⟨hlen, .inr ⟨w.heap.size, _, _, rfl, Nat.zero_le _, heap_alloc_new w.drew _, hge, hcm, ?_, ?_⟩⟩, ⟨rfl, rfl, rfl, by simp, fun k hk _ => Below.heap_alloc w.drew _ k hk⟩⟩
    · simp only [Array.size_append, List.size_toArray, size_zeroCells, hzs, hown.1, hl, ← Nat.add_mul]
      congr 1
      omega
    · simp only [Array.toList_append, List.append_assoc]
      rw [← List.append_assoc, ← hlen]
      exact List.take_left
  by_cases hm0 : m = 0
  · -- nothing is put behind it
    subst hm0
    have hn : news = [] := List.eq_nil_of_length_eq_zero (by simpa using hl)
    subst hn
    rw [List.append_nil, Nat.add_zero]
    refine ⟨v, w, ?_, hown, ⟨rfl, rfl, rfl, Nat.le_refl _, fun _ _ _ => rfl⟩, .inl rfl⟩
    rcases hown.2 with ⟨rfl, rfl⟩ | ⟨g, cap, cur, rfl, _, _, hnc, _⟩
    · cases A <;> simp [Builtin.append_, run_underlying ht, sizeOf, typeInfo, hi, Builtin.lenOf, Builtin.firstCells, loadCells, loadCellsFrom]
    · cases A <;> simp [Builtin.append_, run_underlying ht, sizeOf, typeInfo, hi, Builtin.lenOf, Builtin.firstCells, hnc, storeCells, loadCells, loadCellsFrom]
  obtain ⟨a, rfl, hnews⟩ := hA (by omega)
  rcases hown.2 with ⟨rfl, rfl⟩ | ⟨g, cap, cur, rfl, hbg, hg, hnc, hcm, hcs, htake⟩
  · have hx : xs = [] := List.eq_nil_of_length_eq_zero (by simpa using hown.1)
    subst hx
    have hr := run_append_nil (P := P) w t ty e i z ht hi hz a m c news hl hnews (by omega) (by omega) (by have hb := hbytes; simp only [Nat.zero_add] at hb; omega)
    have hgr := grown 0 (by omega) (blkV (.slice none 0 0))
    simp only [Nat.zero_add, List.nil_append, Array.empty_append] at hgr ⊢
    exact ⟨_, _, hr, hgr.1, hgr.2, .inr ⟨rfl, by simp⟩⟩
  · by_cases hroom : n + m ≤ cap
    · have hfit : n * i.size + news.length ≤ cur.size := by rw [hl, hcs, ← Nat.add_mul]; exact Nat.mul_le_mul_right _ hroom
      have hr := run_append_room (P := P) w t ty e i ht hi g n cap cur hg a m c news hl hnews h1 hroom hfit
      refine ⟨_, _, hr, ⟨hlen, .inr ⟨g, cap, _, rfl, hbg, setRow_heap w g cur _ e _ hg, hroom, hcm, ?_, ?_⟩⟩, ⟨rfl, rfl, rfl, by simp, fun k _ hk => setRow_other w g k _ (fun e => hk (by simp [blkV, e]))⟩, .inl rfl⟩
      · simp only [List.size_toArray, List.length_append, List.length_take, List.length_drop, Array.length_toList]
        omega
      · rw [htake, ← hlen]
        exact List.take_left
    · have holds : ∀ j u, xs[j]? = some u → w.cell? ((⟨g, 0, none⟩ : Addr).add j) = some u := hown.cells (g := g) rfl
      have hr := run_append_grow (P := P) w t ty e i z ht hi hz ⟨g, 0, none⟩ n cap xs hown.1 holds a m c news hl hnews (by omega) (by omega) (growslice_fits (by omega) hbytes)
      have hgr := grown cap (by omega) (blkV (.slice (some ⟨g, 0, none⟩) n cap))
      exact ⟨_, _, hr, hgr.1, hgr.2, .inr ⟨rfl, by simp⟩⟩

section
variable {w0 w : World} {T Fz0 Fz Fz' U : Nat → Prop} {h : Hp} {ρ : Nat → Option Value}
/-- What a slice that is read has in memory, cell behind cell. -/
theorem KI_src {e : Nat} {t : Ty} {xs : List (el t)} {v : Value} (hk : KI w Fz (.sl e t) xs [v]) :
    ∃ A c us, v = .slice A xs.length c ∧ xs.length ≤ c ∧ Rows w Fz t xs us ∧ (0 < xs.length → ∃ g o, A = some ⟨g, o, none⟩ ∧ Fz g ∧ CellsAt w g o us) := by
  obtain ⟨A, c, he, hl, hr⟩ := hk
  have hv : v = .slice A xs.length c := by simpa using he
  cases A with
  | none =>
    have h0 : xs = [] := by
      cases xs with
      | nil => rfl
      | cons x xs => obtain ⟨g, o, row, hA, _⟩ := hr 0 (by simp); cases hA
    subst h0
    exact ⟨none, c, [], hv, hl, Rows_nil, fun hp => absurd hp (by simp)⟩
  | some ad =>
    have key : ∀ n, n ≤ xs.length → ∃ us, Rows w Fz t (xs.take n) us ∧ (∀ g o, ad = ⟨g, o, none⟩ → CellsAt w g o us) := by
      intro n
      induction n with
      | zero => intro _; exact ⟨[], by simpa using Rows_nil, fun g o _ j u hj => by simp at hj⟩
      | succ n ih =>
        intro hn
        obtain ⟨us, hu, hc⟩ := ih (by omega)
        obtain ⟨g, o, row, hA, hg, hcells, hk⟩ := hr n (by omega)
        simp only [Option.some.injEq] at hA
        refine ⟨us ++ row, ?_, fun g' o' he' j u hj => ?_⟩
        · have : xs.take (n + 1) = xs.take n ++ [xs[n]'(by omega)] := by simp
          rw [this]
          exact Rows_app hu (Rows_one hk)
        · have hul : us.length = n * sz t := by rw [hu.1, List.length_take]; congr 1; omega
          rw [List.getElem?_append] at hj
          split at hj
          · exact hc g' o' he' j u hj
          · rename_i hge
            rw [hA] at he'
            simp only [Addr.mk.injEq, and_true] at he'
            obtain ⟨rfl, rfl⟩ := he'
            have h2 := hcells (j - us.length) u hj
            rw [← h2]
            congr 1
            have : j = n * sz t + (j - us.length) := by omega
            rw [Nat.add_assoc, ← this]
    obtain ⟨us, hu, hc⟩ := key xs.length (Nat.le_refl _)
    rw [List.take_length] at hu
    refine ⟨some ad, c, us, hv, hl, hu, fun hp => ?_⟩
    obtain ⟨g, o, row, hA, hg, _⟩ := hr 0 hp
    simp only [Option.some.injEq] at hA
    exact ⟨g, o, by rw [hA], hg, hc g o hA⟩
/-- What a slice reads: nil, read before, or a row of the heap's: in memory. -/
theorem read_src (R : RelM w0 T Fz0 U h ρ Fz w) {e : Nat} {t : Ty} {c : AC} {v : Value} {xs : List (el t)} (hx : asRead h e t c = some xs) (hr : ACRep w ρ Fz c v) :
    ∃ A cp us, v = .slice A xs.length cp ∧ Rows w Fz t xs us ∧ (0 < xs.length → ∃ g o, A = some ⟨g, o, none⟩ ∧ CellsAt w g o us) := by
  by_cases hown : ∃ id e' t' xs', c = .o id ∧ h id = some (.own e' t' xs')
  · obtain ⟨id, e', t', xs', rfl, ho⟩ := hown
    have hid : ρ id = some v := R.oOwn ho hr
    simp only [asRead, slc, ho] at hx
    have := as_some hx; cases this
    obtain ⟨v', hv', vs, how, hrows⟩ := R.objs id _ ho
    rw [hid] at hv'; cases hv'
    rcases how.2 with ⟨rfl, hn⟩ | ⟨g, cap, cur, rfl, hrest⟩
    · exact ⟨none, 0, vs, by rw [hn], hrows, fun hp => by omega⟩
    · refine ⟨some ⟨g, 0, none⟩, cap, vs, rfl, hrows, fun hp => ⟨g, 0, rfl, fun j u hj => ?_⟩⟩
      have := how.cells (g := g) rfl j u hj
      rw [Addr.add_lit] at this; exact this
  · obtain ⟨A, cp, us, h1, h2, h3, h4⟩ := KI_src (read_KI (Fz' := Fz) R (fun _ h => h) hx hr (fun id hc b hl => by
      obtain ⟨e', t', xs', v', ho | ho, _⟩ := hl
      · exact absurd ⟨id, e', t', xs', hc, ho⟩ hown
      · subst hc; simp [asRead, slc, ho] at hx))
    exact ⟨A, cp, us, h1, h3, fun hp => by obtain ⟨g, o, ha, _, hc⟩ := h4 hp; exact ⟨g, o, ha, hc⟩⟩
theorem Rows_one' {t : Ty} {xs : List (el t)} {vs : List Value} (h : Rows w Fz t xs vs) : ∀ u ∈ vs, u.oneCell' = true := by
  intro u hu
  obtain ⟨j, hj, rfl⟩ := List.mem_iff_getElem.1 hu
  have hl := h.1
  have hpos : 0 < sz t := by
    rcases Nat.eq_zero_or_pos (sz t) with hz | hp
    · rw [hz, Nat.mul_zero] at hl; omega
    · exact hp
  have hi : j / sz t < xs.length := by rw [Nat.div_lt_iff_lt_mul hpos]; omega
  refine KI_one (h.2 (j / sz t) hi) _ ?_
  have hm : j % sz t < sz t := Nat.mod_lt _ hpos
  have hd : sz t * (j / sz t) + j % sz t = j := Nat.div_add_mod j (sz t)
  have : ((vs.drop (j / sz t * sz t)).take (sz t))[j % sz t]? = some vs[j] := by
    rw [List.getElem?_take, if_pos hm, List.getElem?_drop, Nat.mul_comm, hd, List.getElem?_eq_getElem hj]
  exact List.mem_of_getElem? this
end

/-- Rows of n numbers are keys. -/
structure MapK (P : Program) (kt : TypeId) (n : Nat) : Prop where
  law : Maps.Keyed P kt
  lits : ∀ ns : List Int, ns.length = n → (∀ x ∈ ns, (Lit.int .i64 x).wf = true) → ∃ l, keyOf P kt (keyV ns) = some l
/-- What the types' table tells of an element's type. -/
structure TyOk (P : Program) (e : TypeId) (t : Ty) : Prop where
  sz : P.cellsOf e = Sx.sz t
  pos : 0 < Sx.sz t
  by1 : 0 < P.bytesOf e
  rd : rdo t = true
  zero : ∃ i z, P.info? e = some i ∧ i.zero = some z ∧ ∀ w Fz, KI w Fz t (dflt t) z.cells.toList
  key : ∀ n, keyN P e = some n → MapK P e n
def EnvOk (E : Env) : Prop := ∀ e t, assoc E.tys e = some t → TyOk E.P e t

section
variable {E : Env} {w0 w : World} {T Fz0 Fz U : Nat → Prop} {h hr : Hp} {ρ : Nat → Option Value} {o : Oper} {a : Act}
theorem elemOf_some {T : TypeId} {e : Nat} {t : Ty} (h : elemOf E T = some (e, t)) : E.P.underlying T = some (.slice e) ∧ assoc E.tys e = some t := by
  unfold elemOf at h
  cases hu : E.P.underlying T with
  | none => rw [hu] at h; cases h
  | some d =>
    rw [hu] at h
    cases d <;> try (cases h; done)
    rename_i e'
    simp only at h
    cases ha : assoc E.tys e' with
    | none => rw [ha] at h; cases h
    | some t' => rw [ha] at h; cases h; exact ⟨rfl, ha⟩
theorem app_ok (EOK : EnvOk E) (R : RelM w0 T Fz0 U h ρ Fz w) (hsub : ∀ id ob, hr id = some ob → h id = some ob) {next : Nat} (hn : ¬ U next) {s x : Operand} {Tt ty : TypeId}
    (ho : o.op = .call { callee := .builtin .append, args := #[s, x], argTypes := #[Tt, Tt] }) {sv xv : TV} (hs : TVRep w ρ Fz sv (a.eval s)) (hx : TVRep w ρ Fz xv (a.eval x))
    {q : SR} (hq : appSR E hr next Tt sv xv = some q) (hc : ∀ c ∈ q.conds, c = true) (y : el q.τ) :
    Done E w0 T Fz0 (fun i => U i ∨ i = next) (updF h (q.upd y)) ρ Fz w o a (q.val y) := by
  unfold appSR at hq
  cases he : elemOf E Tt with
  | none => rw [he] at hq; cases hq
  | some p =>
  obtain ⟨e, t⟩ := p
  rw [he] at hq
  obtain ⟨hu, hty⟩ := elemOf_some he
  have ok := EOK e t hty
  obtain ⟨i, z, hi, hz, hz0⟩ := ok.zero
  simp only at hq
  split at hq
  · rename_i c d
    have hs' : ACRep w ρ Fz c (a.eval s) := hs
    have hx' : ACRep w ρ Fz d (a.eval x) := hx
    split at hq
    · rename_i xs ys hxs hys
      simp only [Option.some.injEq] at hq
      subst hq
      have Rr : RelM w0 T Fz0 U hr ρ Fz w := R.less hsub
      obtain ⟨vs, hown, hrows, hcase⟩ := own_KO Rr hxs hs'
      obtain ⟨A, cp, us, hxe, husr, husc⟩ := read_src Rr hys hx'
      have hcond : (xs.length + ys.length) * E.P.bytesOf e ≤ 140737488351232 := by
        have := hc _ (List.mem_singleton.2 rfl)
        simpa using this
      have hsz : i.size = sz t := by rw [← ok.sz]; simp [Program.cellsOf, hi]
      have hby : E.P.bytesOf e = i.bytes := by simp [Program.bytesOf, hi]
      have hlen : xs.length + ys.length ≤ (xs.length + ys.length) * E.P.bytesOf e := Nat.le_mul_of_pos_right _ ok.by1
      have hzs : z.cells.size = sz t := by have := KI_len (hz0 w Fz); simpa using this
      obtain ⟨v', w', hrun, hown', hg, hat⟩ := run_append_at (P := E.P) w Tt o.type e i z (sz t) hu hi hz hsz hzs ok.pos (a.eval s) xs.length vs hown A ys.length cp us husr.1
        (fun hp => by obtain ⟨g, o', hA, hcl⟩ := husc hp; exact ⟨_, hA, fun j u hj => by rw [Addr.add_lit]; exact hcl j u hj⟩) (Rows_one' husr) (by unfold maxLen; omega) (by rw [← hby]; omega)
      have hexe : (execOp a.eval o).run E.P w = .ok (.value v') w' := by
        unfold execOp
        simp only [ho, resolve, invoke, builtin, Sem.run_bind, Sem.run_pure, Result.andThen_ok, List.map_toArray, List.map_cons, List.map_nil, hxe, hrun]
      have hrow : ∀ b, blkV (a.eval s) = some b → ∃ id, c = .o id ∧ Live h ρ id b := by
        intro b hb
        rcases hcase with ⟨_, hnb, _⟩ | ⟨id, hc', ho', hid⟩
        · rw [hnb] at hb; cases hb
        · exact ⟨id, hc', _, _, hsub id _ ho', rfl, hid, blkOf hb⟩
      have hnone : ρ next = none := by
        cases hρ : ρ next with
        | none => rfl
        | some v => exact absurd (R.dom next v hρ).1 hn
      have hne : ∀ id, c = .o id → id ≠ next := by
        intro id hid e
        subst hid; subst e
        obtain ⟨u, hρ, _⟩ := (hs' : ∃ u, ρ id = some u ∧ _)
        rw [hnone] at hρ; cases hρ
      have hgone : ∀ id, c = .o id → updF h ((match (motive := AC → Upd) c with | .o id => [(id, none)] | _ => []) ++ [(next, some (.own e t (xs ++ ys)))]) id = none := by
        intro id hid
        subst hid
        simp [updF, hne id rfl]
      have hupd1 : updF h ((match (motive := AC → Upd) c with | .o id => [(id, none)] | _ => []) ++ [(next, some (.own e t (xs ++ ys)))]) next = some (.own e t (xs ++ ys)) := by
        rw [updF_app]; simp [updF]
      have hold : ∀ id ob, id ≠ next → updF h ((match (motive := AC → Upd) c with | .o id => [(id, none)] | _ => []) ++ [(next, some (.own e t (xs ++ ys)))]) id = some ob → h id = some ob := by
        intro id ob hid hob
        rw [updF_app] at hob
        simp only [updF, if_neg hid] at hob
        cases c with
        | o id' =>
          simp only [updF] at hob
          split at hob
          · cases hob
          · exact hob
        | _ => exact hob
      have hrowfz : ∀ b, blkV (a.eval s) = some b → ¬ Fz b := fun b hb => by obtain ⟨id, _, hl⟩ := hrow b hb; exact (R.mt id b hl).1
      have hwd : ∀ b, Fz b → w'.heap[b]? = w.heap[b]? := RelM.monoStep hg hrowfz R.fzlt
      obtain ⟨R', m⟩ := R.put (w' := w') (U' := fun i => U i ∨ i = next) (h' := updF h ((match (motive := AC → Upd) c with | .o id => [(id, none)] | _ => []) ++ [(next, some (.own e t (xs ++ ys)))]))
        hg next (.own e t (xs ++ ys)) v' rfl (own_one hown')
        (fun b hb => by obtain ⟨id, hc', hl⟩ := hrow b hb; exact ⟨id, hl, .inl (hgone id hc')⟩) (.inl hnone)
        (fun b hb => by
          have hb := own_blkOf hown' hb
          rcases hat with hat | ⟨hat, hlt⟩
          · rw [hat] at hb
            obtain ⟨id, hc', hl⟩ := hrow b hb
            exact .inr ⟨id, hl, .inl (hgone id hc')⟩
          · rw [hat] at hb; cases hb; exact .inl ⟨Nat.le_refl _, hlt⟩)
        (fun i hi => .inl hi) (.inr rfl) hupd1 hold
        ⟨vs ++ us, by rw [List.length_append]; exact hown', Rows_app (Rows_mono (fun _ h => h) hwd hrows) (Rows_mono (fun _ h => h) hwd husr)⟩
      exact ⟨v', w', _, Fz, .inl hexe, R', m, ⟨v', if_pos rfl, own_gval hown', own_one hown'⟩⟩
    · cases hq
  · cases hq
end
end Go.Sx
