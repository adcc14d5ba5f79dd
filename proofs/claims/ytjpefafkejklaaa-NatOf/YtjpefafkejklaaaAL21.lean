/- An abstract program logic over tree values (part 21): regions that draw their order: the rule. -/
import Derived.Test.YtjpefafkejklaaaAL20
set_option linter.unusedVariables false
set_option linter.unusedSimpArgs false
namespace Go.AL
open Go Go.RowKit

/-- As `aops`, with the live blocks that each operation looks at. -/
def aopsD (P : Program) (TT : Nat → Option TI) (all : List Oper) : List Oper → Nat → List (List Nat) → (List (List Nat) → St → Prop) → St → Prop
  | [], _, acc, K, s => K acc s
  | o :: rest, i, acc, K, s => match o.guard with
    | none => aopK P TT o (s.n + 8 * i) (aopsD P TT all rest (i + 1) (opIds o (aval s.t) :: acc) K) s
    | some (g, want) => match gdst all g, dstOk o.dst s.m with
      | some d, true => match s.t d with
        | .val (.bool x) => match want with
          | true => match x with
            | true => aopK P TT o (s.n + 8 * i) (aopsD P TT all rest (i + 1) (opIds o (aval s.t) :: acc) K) { s with t := upd s.t d (.val (.bool true)) }
            | false => aopsD P TT all rest (i + 1) ([] :: acc) K { s with t := putT (upd s.t d (.val (.bool false))) o.dst (.val undef) }
          | false => match x with
            | true => aopsD P TT all rest (i + 1) ([] :: acc) K { s with t := putT (upd s.t d (.val (.bool true))) o.dst (.val undef) }
            | false => aopK P TT o (s.n + 8 * i) (aopsD P TT all rest (i + 1) (opIds o (aval s.t) :: acc) K) { s with t := upd s.t d (.val (.bool false)) }
        | .val (.tuple _) => aopsD P TT all rest (i + 1) ([] :: acc) K { s with t := putT s.t o.dst (.val undef) }
        | _ => False
      | _, _ => False

def entries : List Oper → Nat → List (List Nat) → List (Nat × Oper × List Nat)
  | o :: os, i, x :: xs => (i, o, x) :: entries os (i + 1) xs
  | _, _, _ => []
def edgesOk (i : Nat) (o : Oper) : Bool := o.after.toList.all fun e => !Region.binds .any e || Nat.blt e.on i
def pairsOk (ops : Array Oper) (n : Nat) : List (Nat × Oper × List Nat) → Bool
  | [] => true
  | x :: l => (edgesOk x.1 x.2.1 && l.all fun y => pairOk ops n x.1 y.1 x.2.1 y.2.1 x.2.2 y.2.2) && pairsOk ops n l
/-- No order changes anything. -/
def indOK (P : Program) (ops : Array Oper) (n : Nat) (ids : List (List Nat)) : Bool := P.follows .mixedOrders && pairsOk ops n (entries ops.toList 0 ids)

section
variable {P : Program} {TT : Nat → Option TI} {ops : Array Oper} {n m : Nat} {t t' : Nat → AV} {h h' : Nat → Option LB}

theorem chain_of {K : List (List Nat) → St → Prop} : ∀ (rest : List Oper) (i : Nat) (s : St) (acc : List (List Nat)), ops.toList.drop i = rest → i + rest.length = ops.toList.length → s.n = n → s.m = m →
    aopsD P TT ops.toList rest i acc K s → ∃ (l : List Ent) (t' : Nat → AV) (h' : Nat → Option LB), l.map (·.i) = List.range' i rest.length ∧ Cn P TT ops n m l s.t s.h t' h' ∧ K ((l.map (·.ids)).reverse ++ acc) { s with t := t', h := h' }
  | [], i, s, acc, hd, hl, hn, hm, h => ⟨[], s.t, s.h, rfl, .nil _ _, h⟩
  | o :: rest, i, s, acc, hd, hl, hn, hm, h => by
    have ho : ops[i]? = some o := by
      have : (ops.toList.drop i)[0]? = some o := by rw [hd]; rfl
      rw [List.getElem?_drop] at this
      simpa using this
    have hd' : ops.toList.drop (i + 1) = rest := by rw [← List.drop_drop, hd]; rfl
    simp only [List.length_cons] at hl
    have go : ∀ (e : Ev) (ids : List Nat), dstOk o.dst m = true → CondE P TT ops n i o ids e s.t s.h →
        aopsD P TT ops.toList rest (i + 1) (ids :: acc) K { s with t := putT s.t o.dst e.val, h := updsH s.h e.u } →
        ∃ (l : List Ent) (t' : Nat → AV) (h' : Nat → Option LB), l.map (·.i) = List.range' i (o :: rest).length ∧ Cn P TT ops n m l s.t s.h t' h' ∧ K ((l.map (·.ids)).reverse ++ acc) { s with t := t', h := h' } := by
      intro e ids hdst hc hk
      obtain ⟨l, t', h', h1, h2, h3⟩ := chain_of rest (i + 1) { s with t := putT s.t o.dst e.val, h := updsH s.h e.u } (ids :: acc) hd' (by omega) hn hm hk
      refine ⟨⟨i, ids, e⟩ :: l, t', h', ?_, .cons ⟨i, ids, e⟩ l o _ _ _ _ ho hdst hc h2, ?_⟩
      · simp [List.range'_succ, h1]
      · simpa using h3
    have perf : ∀ (K' : St → Prop), (gdA ops o s.t true) → K' = aopsD P TT ops.toList rest (i + 1) (opIds o (aval s.t) :: acc) K → aopK P TT o (s.n + 8 * i) K' s →
        ∃ (l : List Ent) (t' : Nat → AV) (h' : Nat → Option LB), l.map (·.i) = List.range' i (o :: rest).length ∧ Cn P TT ops n m l s.t s.h t' h' ∧ K ((l.map (·.ids)).reverse ++ acc) { s with t := t', h := h' } := by
      intro K' hg e hk
      subst e
      unfold aopK at hk
      split at hk
      · rename_i hdst
        obtain ⟨v, u, acc', hs, hk⟩ := run_step hk
        exact go ⟨v, u, false⟩ _ (by rw [← hm]; exact hdst) (.inl ⟨rfl, hg, rfl, acc', by rw [← hn]; exact hs⟩) hk
      · exact hk.elim
    unfold aopsD at h
    split at h
    · rename_i hg
      exact perf _ (by simp [gdA, hg]) rfl h
    · rename_i g want hg
      split at h
      · rename_i d hgd hdst
        have hgd' : (ops[g]?).bind (·.dst) = some d := gdst_bind hgd
        split at h
        · rename_i x hx
          by_cases hxw : x = want
          · have hgA : gdA ops o s.t true := by
              simp only [gdA, hg]
              exact ⟨d, _, hgd', hx, by rw [hxw]; simp [yv]⟩
            subst hxw
            refine perf _ hgA rfl ?_
            cases x <;> (simp only [upd_self hx] at h; exact h)
          · have hgA : gdA ops o s.t false := by
              simp only [gdA, hg]
              exact ⟨d, _, hgd', hx, by simp [yv, hxw]⟩
            refine go ⟨.any, [], true⟩ [] (by rw [← hm]; exact hdst) (.inr ⟨rfl, hgA, rfl⟩) ?_
            cases x <;> cases want <;> first | exact absurd rfl hxw | (simp only [upd_self hx] at h; exact h)
        · rename_i vs hx
          have hgA : gdA ops o s.t false := by
            simp only [gdA, hg]
            exact ⟨d, _, hgd', hx, by simp [yv]⟩
          exact go ⟨.any, [], true⟩ [] (by rw [← hm]; exact hdst) (.inr ⟨rfl, hgA, rfl⟩) h
        · exact h.elim
      · exact h.elim

/-- Two entries: the later one waits, or they have nothing to do with each other. -/
def PR (ops : Array Oper) (n : Nat) (x y : Ent) : Prop := x.i < y.i ∧ ∀ oi oj, ops[x.i]? = some oi → ops[y.i]? = some oj → pairOk ops n x.i y.i oi oj x.ids y.ids = true

theorem ent_mem : ∀ (rest : List Oper) (i : Nat) (l : List Ent), ops.toList.drop i = rest → l.map (·.i) = List.range' i rest.length → ∀ y ∈ l, ∃ o, ops[y.i]? = some o ∧ i ≤ y.i ∧ (y.i, o, y.ids) ∈ entries rest i (l.map (·.ids))
  | [], i, l, hd, hl, y, hy => by
    have : l = [] := by simpa using hl
    rw [this] at hy; cases hy
  | o :: rest, i, l, hd, hl, y, hy => by
    have ho : ops[i]? = some o := by
      have : (ops.toList.drop i)[0]? = some o := by rw [hd]; rfl
      rw [List.getElem?_drop] at this
      simpa using this
    have hd' : ops.toList.drop (i + 1) = rest := by rw [← List.drop_drop, hd]; rfl
    cases l with
    | nil => cases hy
    | cons x l =>
      simp only [List.map_cons, List.length_cons, List.range'_succ, List.cons.injEq] at hl
      rcases List.mem_cons.1 hy with rfl | hy
      · exact ⟨o, by rw [hl.1]; exact ho, by omega, by simp [entries, hl.1]⟩
      · obtain ⟨o', h1, h2, h3⟩ := ent_mem rest (i + 1) l hd' hl.2 y hy
        exact ⟨o', h1, by omega, by simp only [List.map_cons, entries]; exact List.mem_cons_of_mem _ h3⟩

theorem pairs_of : ∀ (rest : List Oper) (i : Nat) (l : List Ent), ops.toList.drop i = rest → l.map (·.i) = List.range' i rest.length → pairsOk ops n (entries rest i (l.map (·.ids))) = true →
    l.Pairwise (PR ops n) ∧ ∀ x ∈ l, ∃ o, ops[x.i]? = some o ∧ ∀ e ∈ o.after, Region.binds .any e = true → e.on < x.i
  | [], i, l, hd, hl, hp => by
    have : l = [] := by simpa using hl
    subst this
    exact ⟨.nil, fun x hx => nomatch hx⟩
  | o :: rest, i, l, hd, hl, hp => by
    have ho : ops[i]? = some o := by
      have : (ops.toList.drop i)[0]? = some o := by rw [hd]; rfl
      rw [List.getElem?_drop] at this
      simpa using this
    have hd' : ops.toList.drop (i + 1) = rest := by rw [← List.drop_drop, hd]; rfl
    cases l with
    | nil => exact ⟨.nil, fun x hx => nomatch hx⟩
    | cons x l =>
      simp only [List.map_cons, List.length_cons, List.range'_succ, List.cons.injEq] at hl
      simp only [List.map_cons, entries, pairsOk, Bool.and_eq_true, List.all_eq_true] at hp
      obtain ⟨⟨p1, p2⟩, p3⟩ := hp
      obtain ⟨h1, h2⟩ := pairs_of rest (i + 1) l hd' hl.2 p3
      refine ⟨.cons (fun y hy => ?_) h1, fun y hy => ?_⟩
      · obtain ⟨oy, q1, q2, q3⟩ := ent_mem rest (i + 1) l hd' hl.2 y hy
        refine ⟨by omega, fun oi oj hoi hoj => ?_⟩
        rw [hl.1, ho] at hoi
        rw [q1] at hoj
        injection hoi with hoi
        injection hoj with hoj
        subst hoi; subst hoj
        rw [hl.1]
        exact p2 _ q3
      · rcases List.mem_cons.1 hy with rfl | hy
        · refine ⟨o, by rw [hl.1]; exact ho, fun e he hb => ?_⟩
          simp only [edgesOk, List.all_eq_true] at p1
          have := p1 e (by simpa using he)
          rw [hb] at this
          rw [hl.1]
          simpa [Nat.blt_eq] using this
        · exact h2 y hy

def frL (n : Nat) (N : Nat) (l : List Ent) (id : Nat) : Prop := (∃ x ∈ l, n + 8 * x.i ≤ id ∧ id < n + 8 * x.i + 8) ∨ n + 8 * N ≤ id

theorem yielded_gd {w0 w : World} {F0 F : Nat → Prop} {ρ : Nat → Option BI} {fr : Nat → Prop} {s : St} {a : Act} (hR : Rel w0 F0 F ρ fr s a w) {o : Oper} {yes : Bool} (hg : gdA ops o s.t yes) : Region.wanted o (yielded ops a.tmps) = yes := by
  unfold gdA at hg
  unfold Region.wanted
  cases hgu : o.guard with
  | none => rw [hgu] at hg; exact hg.symm
  | some gw =>
    obtain ⟨g, want⟩ := gw
    rw [hgu] at hg
    obtain ⟨d, x, h1, h2, h3⟩ := hg
    have hy := yielded_of hR h1 h2
    simp only [hy]
    exact h3

theorem any_sound (hT : TTok P TT) {w0 : World} {F0 : Nat → Prop} {Q : Exit → Act → World → Prop}
    (hQ : ∀ a' w', (∃ F ρ, Rel w0 F0 F ρ (fun id => n + 8 * ops.size ≤ id) ⟨t', h', n, m⟩ a' w') → Q .normal a' w') :
    ∀ (fuel : Nat) (l : List Ent) (listed : Array Bool) (t : Nat → AV) (h : Nat → Option LB) (a : Act) (w : World) (F : Nat → Prop) (ρ : Nat → Option BI), l.length = fuel → listed.size = ops.size →
      (∀ j, j < ops.size → (listed.getD j true = false ↔ ∃ x ∈ l, x.i = j)) → l.Pairwise (PR ops n) → (∀ x ∈ l, ∃ o, ops[x.i]? = some o ∧ ∀ e ∈ o.after, Region.binds .any e = true → e.on < x.i) →
      Cn P TT ops n m l t h t' h' → Rel w0 F0 F ρ (frL n ops.size l) ⟨t, h, n, m⟩ a w → wpAny P .any ops Q fuel listed a w
  | 0, l, listed, t, h, a, w, F, ρ, hl, hz, hli, hp, he, hc, hR => by
    have : l = [] := List.eq_nil_of_length_eq_zero hl
    subst this
    cases hc
    refine ⟨List.eq_nil_iff_forall_not_mem.2 fun j hj => ?_, hQ _ _ ⟨F, ρ, hR.mono_fr fun id hid => .inr hid⟩⟩
    obtain ⟨h1, o, ho, _⟩ := mem_ready.1 hj
    obtain ⟨x, hx, _⟩ := (hli j (Array.getElem?_eq_some_iff.1 ho).1).1 h1
    cases hx
  | fuel + 1, [], listed, t, h, a, w, F, ρ, hl, hz, hli, hp, he, hc, hR => by cases hl
  | fuel + 1, x :: l, listed, t, h, a, w, F, ρ, hl, hz, hli, hp, he, hc, hR => by
    constructor
    · intro hnil
      exfalso
      obtain ⟨o, ho, hed⟩ := he x (by simp)
      have hlt := (Array.getElem?_eq_some_iff.1 ho).1
      have : x.i ∈ Region.ready .any ops listed := mem_ready.2 ⟨(hli _ hlt).2 ⟨x, by simp, rfl⟩, o, ho, fun e hee hb => by
        have h1 := hed e hee hb
        have h2 : ¬ listed.getD e.on true = false := fun hf => by
          obtain ⟨y, hy, hye⟩ := (hli e.on (by omega)).1 hf
          rcases List.mem_cons.1 hy with rfl | hy
          · omega
          · have := ((List.pairwise_cons.1 hp).1 y hy).1
            omega
        have hlt' : e.on < listed.size := by omega
        simp [hlt'] at h2 ⊢
        exact h2⟩
      rw [hnil] at this
      cases this
    · intro j hj
      obtain ⟨h1, oj, hoj, hall⟩ := mem_ready.1 hj
      have hjlt := (Array.getElem?_eq_some_iff.1 hoj).1
      obtain ⟨y, hy, rfl⟩ := (hli j hjlt).1 h1
      obtain ⟨l1, l2, hsplit⟩ := List.append_of_mem hy
      rw [hsplit] at hp hc hR he hli
      have hpa := List.pairwise_append.1 hp
      have hb := Cn.bubble l1 l2 t h t' h' hc (fun k hk => by
        have hkk := hpa.2.2 k hk y (by simp)
        refine ⟨Nat.ne_of_lt hkk.1, fun oi oj' hoi hoj' => ?_⟩
        have hpo := hkk.2 oi oj' hoi hoj'
        rw [hoj] at hoj'
        injection hoj' with hoj'
        subst hoj'
        simp only [pairOk, Bool.or_eq_true, Bool.and_eq_true] at hpo
        rcases hpo with hw | hw
        · exfalso
          simp only [waits, List.any_eq_true, Bool.and_eq_true] at hw
          obtain ⟨e, hee, hb, hon⟩ := hw
          have g1 := hall e (by simpa using hee) hb
          have hon' : e.on = k.i := Nat.eq_of_beq_eq_true hon
          have hklt : k.i < ops.size := (Array.getElem?_eq_some_iff.1 hoi).1
          have g2 := (hli k.i hklt).2 ⟨k, by simp [hk], rfl⟩
          rw [hon'] at g1
          have hlt' : k.i < listed.size := by omega
          simp [hlt'] at g1 g2
          rw [g1] at g2
          cases g2
        · exact hw)
      have hnd : ∀ k ∈ l1 ++ l2, k.i ≠ y.i := by
        intro k hk
        rcases List.mem_append.1 hk with hk | hk
        · exact Nat.ne_of_lt (hpa.2.2 k hk y (by simp)).1
        · exact fun e => by have := ((List.pairwise_cons.1 hpa.2.1).1 k hk).1; omega
      have hsub : ∀ k ∈ l1 ++ l2, k ∈ l1 ++ y :: l2 := by
        intro k hk
        rcases List.mem_append.1 hk with hk | hk <;> simp [hk]
      cases hb with
      | cons _ _ oj' _ _ _ _ hoj' hdj hcj hl' =>
        rw [hoj] at hoj'
        injection hoj' with hoj'
        subst hoj'
        have hnext : ∀ (F' : Nat → Prop) (ρ' : Nat → Option BI) (a' : Act) (w' : World),
            Rel w0 F0 F' ρ' (frL n ops.size (l1 ++ l2)) ⟨putT t oj.dst y.ev.val, updsH h y.ev.u, n, m⟩ a' w' → wpAny P .any ops Q fuel (listed.setIfInBounds y.i true) a' w' := by
          intro F' ρ' a' w' hR'
          refine any_sound hT hQ fuel (l1 ++ l2) _ _ _ a' w' F' ρ' ?_ (by simpa using hz) ?_ ?_ (fun k hk => he k (hsub k hk)) hl' hR'
          · have := congrArg List.length hsplit
            simp at this hl ⊢
            omega
          · intro k hk
            by_cases hky : y.i = k
            · subst hky
              have hlt' : y.i < listed.size := by omega
              simp [hlt']
              intro k hk
              exact hnd k (by simpa using hk)
            · rw [getD_set_ne true hky, hli k hk]
              constructor
              · rintro ⟨x, hx, rfl⟩
                refine ⟨x, ?_, rfl⟩
                rcases List.mem_append.1 hx with hx | hx
                · simp [hx]
                · rcases List.mem_cons.1 hx with rfl | hx
                  · exact absurd rfl hky
                  · simp [hx]
              · rintro ⟨x, hx, rfl⟩
                exact ⟨x, hsub x hx, rfl⟩
          · refine List.pairwise_append.2 ⟨hpa.1, (List.pairwise_cons.1 hpa.2.1).2, fun a ha b hb => hpa.2.2 a ha b (by simp [hb])⟩
        have hfr : ∀ id, frL n ops.size (l1 ++ l2) id → frL n ops.size (l1 ++ y :: l2) id ∧ ¬ (n + 8 * y.i ≤ id ∧ id < n + 8 * y.i + 8) := by
          rintro id (⟨k, hk, h1, h2⟩ | h1)
          · refine ⟨.inl ⟨k, hsub k hk, h1, h2⟩, fun hc => ?_⟩
            have := hnd k hk
            omega
          · exact ⟨.inr h1, fun hc => by omega⟩
        unfold wpOp
        simp only [hoj]
        rcases hcj with ⟨c1, c2, c3, acc, c4⟩ | ⟨c1, c2, c3⟩
        · rw [if_pos (yielded_gd hR c2)]
          refine .inl (step_sound hT hR (fun k hk => .inl ⟨y, by simp, by omega, by omega⟩) c4 hdj (fun a' w' ⟨F', ρ', hR'⟩ => ?_))
          refine hnext F' ρ' a' w' ?_
          have e : y.ev.val = y.ev.v := by simp [Ev.val, c1]
          rw [e]
          exact hR'.mono_fr hfr
        · have hw : ¬ Region.wanted oj (yielded ops a.tmps) = true := by rw [yielded_gd hR c2]; decide
          rw [if_neg hw]
          refine hnext F ρ _ w ?_
          have e : y.ev.val = .val undef := by simp [Ev.val, c1]
          rw [e, c3]
          exact (hR.putd (.val undef) oj.dst hdj).mono_fr (fun id hid => (hfr id hid).1)

theorem Rel.drawn {w0 w : World} {F0 F : Nat → Prop} {ρ : Nat → Option BI} {fr : Nat → Prop} {s : St} {a : Act} (hR : Rel w0 F0 F ρ fr s a w) : Rel w0 F0 F ρ fr s a { w with drawn := w.drawn + 1 } where
  defers := hR.defers
  size := hR.size
  below := ⟨hR.below.os, hR.below.tape, hR.below.output, hR.below.size, hR.below.block⟩
  Fb := hR.Fb
  F0F := hR.F0F
  Fnew := hR.Fnew
  vals := fun t => VR.mono (w := w) (w' := { w with drawn := w.drawn + 1 }) (fun _ h => h) (fun _ _ => rfl) (fun _ _ h => h) (hR.vals t)
  blks := fun id lb hl => by
    obtain ⟨bi, h1, h2, h3⟩ := hR.blks id lb hl
    exact ⟨bi, h1, BR.mono (w := w) (w' := { w with drawn := w.drawn + 1 }) (fun _ h => h) (fun _ _ => rfl) (fun _ _ h => h) (fun _ => rfl) h2, h3⟩
  inj := hR.inj
  fresh := hR.fresh

/-- A region that draws its order. -/
theorem SW.regionD {Q : Exit → St → Prop} {s : St} (hT : TTok P TT) {id : Nat}
    (h : aopsD P TT ops.toList ops.toList 0 [] (fun acc s' => indOK P ops s'.n acc.reverse = true ∧ Q .normal { s' with n := s'.n + 8 * ops.toList.length }) s) : SW P (.region id ops true) Q s := by
  unfold SW
  intro w0 F0 a w hR
  obtain ⟨F, ρ, hR'⟩ := hR
  obtain ⟨l, t', h', h1, h2, h3, h4⟩ := chain_of (n := s.n) (m := s.m) ops.toList 0 s [] rfl (by simp) rfl rfl h
  simp only [List.append_nil, List.reverse_reverse, indOK, Bool.and_eq_true] at h3
  obtain ⟨hm, hpo⟩ := h3
  obtain ⟨q1, q2⟩ := pairs_of ops.toList 0 l rfl h1 hpo
  have hlen : l.length = ops.size := by have := congrArg List.length h1; simpa using this
  refine wp_region_any hm ?_
  refine any_sound (t' := t') (h' := h') (n := s.n) (m := s.m) (w0 := w0) (F0 := F0) hT (fun a' w' hx => ?_) ops.size l _ s.t s.h a _ F ρ hlen (by simp) ?_ q1 q2 h2 ?_
  · obtain ⟨F, ρ, hR⟩ := hx
    exact ⟨_, h4, rfl, F, ρ, by simpa using hR.setN _⟩
  · intro j hj
    have : (Array.replicate ops.size false).getD j true = false := by simp [hj]
    simp only [this, true_iff]
    have hmem : j ∈ l.map (·.i) := by rw [h1]; simp [List.mem_range'_1, hj]
    obtain ⟨x, hx, rfl⟩ := List.mem_map.1 hmem
    exact ⟨x, hx, rfl⟩
  · exact hR'.drawn.mono_fr (fun id hid => by
      rcases hid with ⟨x, hx, h1, h2⟩ | h1 <;> omega)

end
end Go.AL
