/- An abstract program logic over tree values (part 20): whatever order is drawn, the end is that of the text's order. -/
import Derived.Test.YtjpefafkejklaaaAL19b
set_option linter.unusedVariables false
set_option linter.unusedSimpArgs false
namespace Go.AL
open Go Go.RowKit

theorem updsH_not : ∀ (u : Ups) (h : Nat → Option LB) (id : Nat), (∀ p ∈ u, p.1 ≠ id) → updsH h u id = h id
  | [], h, id, _ => rfl
  | (d, v) :: u, h, id, hn => by
    simp only [updsH]
    rw [updsH_not u _ id (fun p hp => hn p (by simp [hp])), updH_ne _ _ (fun e => hn (d, v) (by simp) e.symm)]
theorem updsH_in : ∀ (u : Ups) (h h' : Nat → Option LB) (id : Nat), (∃ p ∈ u, p.1 = id) → updsH h u id = updsH h' u id
  | [], h, h', id, hm => by obtain ⟨p, hp, _⟩ := hm; cases hp
  | (d, v) :: u, h, h', id, hm => by
    simp only [updsH]
    by_cases hu : ∃ p ∈ u, p.1 = id
    · exact updsH_in u _ _ id hu
    · have hn : ∀ p ∈ u, p.1 ≠ id := fun p hp e => hu ⟨p, hp, e⟩
      rw [updsH_not u _ id hn, updsH_not u _ id hn]
      obtain ⟨p, hp, e⟩ := hm
      rcases List.mem_cons.1 hp with rfl | hp
      · have e' : d = id := e
        subst e'; rw [updH_same, updH_same]
      · exact absurd e (hn p hp)
theorem updsH_comm (u u' : Ups) (h : Nat → Option LB) (hd : ∀ p ∈ u, ∀ q ∈ u', p.1 ≠ q.1) : updsH (updsH h u) u' = updsH (updsH h u') u := by
  funext id
  by_cases h1 : ∃ p ∈ u, p.1 = id
  · obtain ⟨p, hp, rfl⟩ := h1
    rw [updsH_not u' _ _ (fun q hq e => hd p hp q hq e.symm)]
    exact updsH_in u _ _ _ ⟨p, hp, rfl⟩
  · have hn : ∀ p ∈ u, p.1 ≠ id := fun p hp e => h1 ⟨p, hp, e⟩
    rw [updsH_not u (updsH h u') id hn]
    by_cases h2 : ∃ q ∈ u', q.1 = id
    · exact updsH_in u' _ _ _ h2
    · have hn' : ∀ q ∈ u', q.1 ≠ id := fun q hq e => h2 ⟨q, hq, e⟩
      rw [updsH_not u' _ id hn', updsH_not u _ id hn, updsH_not u' _ id hn']

/-- What an operation does in a region: its value, what it changes, whether its guard lets it by. -/
structure Ev where
  v : AV
  u : Ups
  skip : Bool

def Ev.val (e : Ev) : AV := bif e.skip then .val undef else e.v

def gdA (ops : Array Oper) (o : Oper) (t : Nat → AV) (yes : Bool) : Prop :=
  match o.guard with
  | none => yes = true
  | some (g, want) => ∃ d x, (ops[g]?).bind (·.dst) = some d ∧ t d = .val x ∧ (yv x == some want) = yes

/-- Operation i, at such slots and live blocks. -/
def CondE (P : Program) (TT : Nat → Option TI) (ops : Array Oper) (n : Nat) (i : Nat) (o : Oper) (ids : List Nat) (e : Ev) (t : Nat → AV) (h : Nat → Option LB) : Prop :=
  (e.skip = false ∧ gdA ops o t true ∧ opIds o (aval t) = ids ∧ ∃ acc, AStep P TT o t h (n + 8 * i) e.v e.u acc) ∨ (e.skip = true ∧ gdA ops o t false ∧ e.u = [])

/-- An operation of a region, with what it does. -/
structure Ent where
  i : Nat
  ids : List Nat
  ev : Ev

/-- A chain of operations. -/
inductive Cn (P : Program) (TT : Nat → Option TI) (ops : Array Oper) (n m : Nat) : List Ent → (Nat → AV) → (Nat → Option LB) → (Nat → AV) → (Nat → Option LB) → Prop
  | nil (t : Nat → AV) (h : Nat → Option LB) : Cn P TT ops n m [] t h t h
  | cons (x : Ent) (l : List Ent) (o : Oper) (t : Nat → AV) (h : Nat → Option LB) (t' : Nat → AV) (h' : Nat → Option LB) (ho : ops[x.i]? = some o) (hd : dstOk o.dst m = true)
      (hc : CondE P TT ops n x.i o x.ids x.ev t h) (hl : Cn P TT ops n m l (putT t o.dst x.ev.val) (updsH h x.ev.u) t' h') : Cn P TT ops n m (x :: l) t h t' h'

section
variable {P : Program} {TT : Nat → Option TI} {ops : Array Oper} {n m : Nat} {i j : Nat} {oi oj o : Oper} {idi idj ids : List Nat} {ei ej e : Ev} {t t' t1 : Nat → AV} {h h' h1 : Nat → Option LB}

theorem aval_agree {x : Operand} (hx : ∀ d, x = .tmp d → t d = t' d) : aval t x = aval t' x := by
  cases x with
  | tmp d => exact hx d rfl
  | _ => rfl

theorem CondE.move (hc : CondE P TT ops n i o ids e t h) (ht : ∀ d ∈ o.looksAt ops, t d = t' d) (hh : DepOk o.op ids h h') : CondE P TT ops n i o ids e t' h' := by
  have hop : ∀ x ∈ o.op.operands, aval t x = aval t' x := fun x hx => aval_agree fun d hd => ht d (by
    subst hd
    exact List.mem_append_left _ (List.mem_filterMap.2 ⟨.tmp d, by simpa using hx, rfl⟩))
  have hgd : ∀ yes, gdA ops o t yes → gdA ops o t' yes := by
    intro yes hg
    unfold gdA at *
    cases hgu : o.guard with
    | none => rw [hgu] at hg; exact hg
    | some gw =>
      obtain ⟨g, want⟩ := gw
      rw [hgu] at hg
      obtain ⟨d, x, h1, h2, h3⟩ := hg
      refine ⟨d, x, h1, ?_, h3⟩
      rw [← ht d (by simp [Oper.looksAt, hgu, h1])]
      exact h2
  have hids : opIds o (aval t) = opIds o (aval t') := by
    unfold opIds
    rw [List.flatMap_def, List.flatMap_def]
    refine congrArg List.flatten (List.map_congr_left ?_)
    intro x hx
    simp only [hop x (by simpa using hx)]
  rcases hc with ⟨h1, h2, h3, acc, hs⟩ | ⟨h1, h2, h3⟩
  · refine .inl ⟨h1, hgd _ h2, by rw [← hids]; exact h3, acc, ?_⟩
    have hl : aop TT o (aval t') h' (n + 8 * i) = aop TT o (aval t) h (n + 8 * i) := by
      rw [← aop_congr hop]
      exact (aop_dep h3 hh).symm
    unfold AStep at *
    rw [hl]
    exact hs
  · exact .inr ⟨h1, hgd _ h2, h3⟩

theorem CondE.ups (hc : CondE P TT ops n i o ids e t h) : ∀ p ∈ e.u, (p.1 ∈ ids ∧ isW o.op = true) ∨ (n + 8 * i ≤ p.1 ∧ p.1 < n + 8 * i + 8) := by
  rcases hc with ⟨h1, h2, h3, acc, hs⟩ | ⟨h1, h2, h3⟩
  · intro p hp
    have := AStep_ups hs p hp
    rwa [h3] at this
  · intro p hp; rw [h3] at hp; cases hp

def disj (a b : List Nat) : Bool := a.all fun x => b.all fun y => !Nat.beq x y
/-- What the second one looks at is nothing that the first one changes. -/
def calm (x y : Op) : Bool := !isW x || Nat.beq (dep y) 0 || (isStore x && Nat.ble (dep y) 1)
/-- Two operations that do not look at what the other one does. -/
def idsOk (n i j : Nat) (oi oj : Oper) (idi idj : List Nat) : Bool :=
  (disj idi idj || (calm oi.op oj.op && calm oj.op oi.op && !(isW oi.op && isW oj.op))) &&
  (idj.all fun y => Nat.blt y (n + 8 * i) || Nat.ble (n + 8 * i + 8) y) && (idi.all fun x => Nat.blt x (n + 8 * j) || Nat.ble (n + 8 * j + 8) x)

theorem disj_spec {a b : List Nat} (h : disj a b = true) : ∀ x ∈ a, ∀ y ∈ b, x ≠ y := by
  intro x hx y hy e
  simp only [disj, List.all_eq_true, Bool.not_eq_true'] at h
  have := h x hx y hy
  rw [e, Nat.beq_refl] at this
  cases this

theorem rd (hi : CondE P TT ops n i oi idi ei t h) (hk : disj idi idj = true ∨ calm oi.op oj.op = true) (k2 : ∀ y ∈ idj, ¬ (n + 8 * i ≤ y ∧ y < n + 8 * i + 8)) : DepOk oj.op idj (updsH h ei.u) h := by
  rcases hk with hk | hk
  · refine .inr (.inr fun id hid => updsH_not _ _ _ (fun p hp e => ?_))
    rcases hi.ups p hp with ⟨q1, q2⟩ | q
    · exact disj_spec hk p.1 q1 id hid e
    · rw [e] at q; exact k2 id hid q
  · simp only [calm, Bool.or_eq_true, Bool.and_eq_true, Bool.not_eq_true'] at hk
    rcases hk with (hk | hk) | ⟨hk, hk2⟩
    · refine .inr (.inr fun id hid => updsH_not _ _ _ (fun p hp e => ?_))
      rcases hi.ups p hp with ⟨q1, q2⟩ | q
      · rw [hk] at q2; cases q2
      · rw [e] at q; exact k2 id hid q
    · exact .inl (Nat.eq_of_beq_eq_true hk)
    · have hs : ∀ p ∈ ei.u, shp p.2 = shp (h p.1) := by
        rcases hi with ⟨_, _, _, acc, hs⟩ | ⟨_, _, h3⟩
        · exact AStep_store hk hs
        · intro p hp; rw [h3] at hp; cases hp
      have hle := Nat.ble_eq.mp hk2
      by_cases h0 : dep oj.op = 0
      · exact .inl h0
      · exact .inr (.inl ⟨by omega, fun id _ => updsH_shape _ _ hs id⟩)

theorem putT_comm {di dj : Option Nat} (v w : AV) (hd : ∀ d, di = some d → dj ≠ some d) : putT (putT t di v) dj w = putT (putT t dj w) di v := by
  cases di with
  | none => rfl
  | some a =>
    cases dj with
    | none => rfl
    | some b =>
      have hne : a ≠ b := fun e => hd a rfl (by rw [e])
      funext k
      simp only [putT, upd]
      cases h1 : Nat.beq k a <;> cases h2 : Nat.beq k b <;> simp [h1, h2]
      exact absurd ((Nat.eq_of_beq_eq_true h1).symm.trans (Nat.eq_of_beq_eq_true h2)) hne

theorem putT_other {di : Option Nat} {v : AV} {d : Nat} (hd : di ≠ some d) : putT t di v d = t d := by
  cases di with
  | none => rfl
  | some a => exact upd_ne _ _ (fun e => hd (by rw [e]))

theorem swap (hij : i ≠ j) (hap : oi.apart ops oj = true) (hok : idsOk n i j oi oj idi idj = true) (hi : CondE P TT ops n i oi idi ei t h)
    (hj : CondE P TT ops n j oj idj ej (putT t oi.dst ei.val) (updsH h ei.u)) :
    CondE P TT ops n j oj idj ej t h ∧ CondE P TT ops n i oi idi ei (putT t oj.dst ej.val) (updsH h ej.u) ∧
      putT (putT t oi.dst ei.val) oj.dst ej.val = putT (putT t oj.dst ej.val) oi.dst ei.val ∧ updsH (updsH h ei.u) ej.u = updsH (updsH h ej.u) ei.u := by
  obtain ⟨a1, a2, a3⟩ := Oper.apart_spec hap
  simp only [idsOk, Bool.and_eq_true, Bool.or_eq_true, List.all_eq_true, Bool.not_eq_true'] at hok
  obtain ⟨⟨k1, k2⟩, k3⟩ := hok
  have r2 : ∀ y ∈ idj, ¬ (n + 8 * i ≤ y ∧ y < n + 8 * i + 8) := fun y hy hc => by
    rcases k2 y hy with h | h
    · have := Nat.blt_eq.mp h; omega
    · have := Nat.ble_eq.mp h; omega
  have r3 : ∀ x ∈ idi, ¬ (n + 8 * j ≤ x ∧ x < n + 8 * j + 8) := fun x hx hc => by
    rcases k3 x hx with h | h
    · have := Nat.blt_eq.mp h; omega
    · have := Nat.ble_eq.mp h; omega
  have hd1 : disj idi idj = true ∨ calm oi.op oj.op = true := k1.imp id (fun h => h.1.1)
  have hd2 : disj idj idi = true ∨ calm oj.op oi.op = true := by
    rcases k1 with h | h
    · left
      simp only [disj, List.all_eq_true, Bool.not_eq_true']
      intro x hx y hy
      have := disj_spec h y hy x hx
      cases hb : Nat.beq x y with
      | false => rfl
      | true => exact absurd (Nat.eq_of_beq_eq_true hb).symm this
    · exact .inr h.1.2
  have r1 : isW oi.op = true → isW oj.op = true → ∀ x ∈ idi, ∀ y ∈ idj, x ≠ y := by
    intro hw hw'
    rcases k1 with h | h
    · exact disj_spec h
    · have := h.2; rw [hw, hw'] at this; cases this
  have hj' : CondE P TT ops n j oj idj ej t h := hj.move (fun d hd => putT_other (fun e => a1 d e hd)) (rd hi hd1 r2)
  have hi' : CondE P TT ops n i oi idi ei (putT t oj.dst ej.val) (updsH h ej.u) := hi.move (fun d hd => (putT_other (fun e => a3 d e hd)).symm) (by
    rcases rd hj' hd2 r3 with h | ⟨h, h'⟩ | h
    · exact .inl h
    · exact .inr (.inl ⟨h, fun id hid => (h' id hid).symm⟩)
    · exact .inr (.inr fun id hid => (h id hid).symm))
  refine ⟨hj', hi', putT_comm _ _ (fun d h1 h2 => a2 d h1 h2), updsH_comm _ _ _ (fun p hp q hq e => ?_)⟩
  rcases hi.ups p hp with ⟨p1, p2⟩ | p1 <;> rcases hj'.ups q hq with ⟨q1, q2⟩ | q1
  · exact r1 p2 q2 p.1 p1 q.1 q1 e
  · rw [← e] at q1; exact r3 p.1 p1 q1
  · rw [e] at p1; exact r2 q.1 q1 p1
  · rw [e] at p1; omega

def waits (o : Oper) (i : Nat) : Bool := o.after.toList.any fun e => Region.binds .any e && Nat.beq e.on i
/-- Of two operations the later one waits for the earlier one, or they have nothing to do with each other. -/
def pairOk (ops : Array Oper) (n i j : Nat) (oi oj : Oper) (idi idj : List Nat) : Bool := waits oj i || (oi.apart ops oj && idsOk n i j oi oj idi idj)

theorem Cn.bubble {y : Ent} : ∀ (l1 l2 : List Ent) (t : Nat → AV) (h : Nat → Option LB) (t' : Nat → AV) (h' : Nat → Option LB), Cn P TT ops n m (l1 ++ y :: l2) t h t' h' →
    (∀ x ∈ l1, x.i ≠ y.i ∧ ∀ oi oj, ops[x.i]? = some oi → ops[y.i]? = some oj → oi.apart ops oj = true ∧ idsOk n x.i y.i oi oj x.ids y.ids = true) → Cn P TT ops n m (y :: (l1 ++ l2)) t h t' h'
  | [], l2, t, h, t', h', hc, _ => hc
  | x :: l1, l2, t, h, t', h', hc, hk => by
    cases hc with
    | cons _ _ oi _ _ _ _ hoi hdi hci hl =>
      have hb := Cn.bubble l1 l2 _ _ _ _ hl (fun k hk' => hk k (by simp [hk']))
      cases hb with
      | cons _ _ oj _ _ _ _ hoj hdj hcj hl' =>
        obtain ⟨hne, hkk⟩ := hk x (by simp)
        obtain ⟨h1, h2⟩ := hkk oi oj hoi hoj
        obtain ⟨c1, c2, c3, c4⟩ := swap hne h1 h2 hci hcj
        refine .cons y _ oj t h t' h' hoj hdj c1 (.cons x _ oi _ _ _ _ hoi hdi c2 ?_)
        rw [← c3, ← c4]
        exact hl'

end
end Go.AL
