/- An abstract program logic over tree values (part 17): states as lists; what is known may be forgotten, live blocks may get other numbers. -/
import Derived.Test.YtjpefafkejklaaaAL16
set_option linter.unusedVariables false
set_option linter.unusedSimpArgs false
namespace Go.AL
open Go Go.RowKit

def mkT : List (Nat × AV) → Nat → AV
  | [], _ => .any
  | (k, v) :: l, j => bif Nat.beq j k then v else mkT l j
def mkH : List (Nat × LB) → Nat → Option LB
  | [], _ => none
  | (k, v) :: l, j => bif Nat.beq j k then some v else mkH l j
/-- A state in full. -/
def mkS (ts : List (Nat × AV)) (hs : List (Nat × LB)) (n m : Nat) : St := ⟨mkT ts, mkH hs, n, m⟩

/-- Live blocks under their elder numbers. -/
def AV.rn1 (σ : Nat → Nat) : AV → AV
  | .own id o l => .own (σ id) o l
  | .lp id c => .lp (σ id) c
  | .li id r c => .li (σ id) r c
  | .it id => .it (σ id)
  | x => x
def AV.rn (σ : Nat → Nat) : AV → AV
  | .agg cs => .agg (cs.map (AV.rn1 σ))
  | x => x.rn1 σ
/-- Only block numbers below n. -/
def AV.lt1 (n : Nat) : AV → Bool
  | .own id _ _ => Nat.blt id n
  | .lp id _ => Nat.blt id n
  | .li id _ _ => Nat.blt id n
  | .it id => Nat.blt id n
  | .agg _ => false
  | .tup _ => false
  | _ => true
def AV.lt (n : Nat) : AV → Bool
  | .agg cs => cs.all (AV.lt1 n)
  | x => x.lt1 n

def LB.rn (σ : Nat → Nat) : LB → LB
  | .cells sz rows => .cells sz (rows.map (List.map (AV.rn1 σ)))
  | x => x
def LB.lt (n : Nat) : LB → Bool
  | .cells _ rows => rows.all (List.all · (AV.lt1 n))
  | _ => true
def LB.NoIds : LB → Prop
  | .cells _ rows => ∀ r ∈ rows, ∀ x ∈ r, NoId x
  | _ => True

def σf : List (Nat × Nat) → Nat → Nat
  | [], j => j
  | (k, v) :: l, j => bif Nat.beq j k then v else σf l j

def okT (s : St) (σ : Nat → Nat) (n : Nat) : List (Nat × AV) → Prop
  | [] => True
  | (k, v) :: l => (s.t k = v.rn σ ∧ v.lt n = true) ∧ okT s σ n l
/-- A block is as it was, and names no block; or its cells' block numbers are told. -/
def okB (s : St) (σ : Nat → Nat) (n : Nat) (k : Nat) (lb : LB) : Prop :=
  Nat.blt k n = true ∧ ((s.h (σ k) = some lb ∧ lb.NoIds) ∨ (s.h (σ k) = some (lb.rn σ) ∧ lb.lt n = true))
def okH (s : St) (σ : Nat → Nat) (n : Nat) : List (Nat × LB) → Prop
  | [] => True
  | (k, lb) :: l => okB s σ n k lb ∧ okH s σ n l

def distinct : List Nat → Bool
  | [] => true
  | x :: l => l.all (fun y => !Nat.beq x y) && distinct l

section
variable {w0 w : World} {F0 F : Nat → Prop} {ρ : Nat → Option BI} {s : St} {a : Act}

def rnρ (ρ : Nat → Option BI) (σ : Nat → Nat) (n : Nat) : Nat → Option BI := fun id => if id < n then ρ (σ id) else none

theorem VR.rn1 {σ : Nat → Nat} {n : Nat} {v : Value} {x : AV} (hx : x.lt1 n = true) (h : VR w F ρ v (x.rn1 σ)) : VR w F (rnρ ρ σ n) v x := by
  have key : ∀ {id : Nat} {bi : BI}, Nat.blt id n = true → ρ (σ id) = some bi → rnρ ρ σ n id = some bi := by
    intro id bi hlt hr
    simp only [rnρ, Nat.blt_eq.mp hlt, if_true, hr]
  cases x with
  | any => exact .any v
  | val u => cases h; exact .val _
  | agg cs => cases hx
  | tup cs => cases hx
  | sl sz rows t =>
    cases h with
    | sl A m c _ _ _ b o vals hn hc ht hw hA h0 h1 h2 hno => exact .sl A m c sz rows t b o vals hn hc ht hw hA h0 h1 (fun j y hy => (h2 j y hy).noid (hno j y hy)) hno
  | fp row c =>
    cases h with
    | fp _ _ b o vals hF h0 h1 h2 hno => exact .fp row c b o vals hF h0 h1 (fun j y hy => (h2 j y hy).noid (hno j y hy)) hno
  | own id o l =>
    cases h with
    | own A _ _ _ cap bi hr hl hA => exact .own A id o l cap bi (key hx hr) hl hA
  | lp id c => cases h with | lp _ _ bi hr => exact .lp id c bi (key hx hr)
  | li id r c => cases h with | li _ _ _ bi hr => exact .li id r c bi (key hx hr)
  | it id => cases h with | it _ bi hr => exact .it id bi (key hx hr)

theorem VR.rn {σ : Nat → Nat} {n : Nat} {v : Value} {x : AV} (hx : x.lt n = true) (h : VR w F ρ v (x.rn σ)) : VR w F (rnρ ρ σ n) v x := by
  cases x with
  | agg cs =>
    cases h with
    | agg vs _ hl h1 h2 =>
      have get : ∀ (i : Nat) (y : AV), cs[i]? = some y → (cs.map (AV.rn1 σ))[i]? = some (y.rn1 σ) := fun i y hy => by rw [List.getElem?_map, hy]; rfl
      exact .agg vs cs (by simpa using hl) (fun i y hy => h1 i _ (get i y hy)) (fun i y hy => (h2 i _ (get i y hy)).rn1 (List.all_eq_true.1 hx y (List.mem_of_getElem? hy)))
  | _ => exact VR.rn1 hx h

theorem okT_at {σ : Nat → Nat} {n : Nat} : ∀ (ts : List (Nat × AV)), okT s σ n ts → ∀ k, mkT ts k = .any ∨ (s.t k = (mkT ts k).rn σ ∧ (mkT ts k).lt n = true)
  | [], _, k => .inl rfl
  | (j, v) :: l, h, k => by
    unfold mkT
    cases hb : Nat.beq k j with
    | true =>
      have e := Nat.eq_of_beq_eq_true hb
      subst e
      exact .inr h.1
    | false => exact okT_at l h.2 k

theorem okH_at {σ : Nat → Nat} {n : Nat} : ∀ (hs : List (Nat × LB)), okH s σ n hs → ∀ k lb, mkH hs k = some lb → okB s σ n k lb ∧ k ∈ hs.map (·.1)
  | [], _, k, lb, h => by cases h
  | (j, v) :: l, h, k, lb, hk => by
    unfold mkH at hk
    cases hb : Nat.beq k j with
    | true =>
      have e := Nat.eq_of_beq_eq_true hb
      subst e
      rw [hb] at hk
      injection hk with hk
      subst hk
      exact ⟨h.1, by simp⟩
    | false =>
      rw [hb] at hk
      have := okH_at l h.2 k lb hk
      exact ⟨this.1, by simp [this.2]⟩

theorem distinct_inj : ∀ (l : List Nat) (σ : Nat → Nat), distinct (l.map σ) = true → ∀ i ∈ l, ∀ j ∈ l, i ≠ j → σ i ≠ σ j
  | [], _, _, i, hi => by cases hi
  | x :: l, σ, h, i, hi => by
    intro j hj hne
    simp only [List.map_cons, distinct, Bool.and_eq_true, List.all_eq_true] at h
    have hx : ∀ y ∈ l, σ x ≠ σ y := fun y hy e => by
      have := h.1 (σ y) (List.mem_map.2 ⟨y, hy, rfl⟩)
      rw [e] at this
      simp [Nat.beq_refl] at this
    rcases List.mem_cons.1 hi with rfl | hi'
    · rcases List.mem_cons.1 hj with rfl | hj'
      · exact absurd rfl hne
      · exact hx j hj'
    · rcases List.mem_cons.1 hj with rfl | hj'
      · exact (hx i hi').symm
      · exact distinct_inj l σ h.2 i hi' j hj' hne

/-- A state in full, weaker than another one. -/
theorem Wk.of (σ : Nat → Nat) (ts : List (Nat × AV)) (hs : List (Nat × LB)) (n m : Nat) (hm : s.m = m) (ht : okT s σ n ts) (hh : okH s σ n hs) (hd : distinct ((hs.map (·.1)).map σ) = true) : Wk s (mkS ts hs n m) := by
  intro w0 F0 a w ⟨F, ρ, hR⟩
  refine ⟨F, rnρ ρ σ n, hR.defers, by rw [hR.size, hm]; rfl, hR.below, hR.Fb, hR.F0F, hR.Fnew, fun t => ?_, fun id lb hl => ?_, fun id id' bi bi' h1 h2 r1 r2 p1 p2 hne => ?_, fun id hid => ?_⟩
  · show VR w F _ _ (mkT ts t)
    rcases okT_at ts ht t with h | ⟨h1, h2⟩
    · rw [h]; exact .any _
    · have := hR.vals t
      rw [h1] at this
      exact this.rn h2
  · obtain ⟨⟨hlt, hb⟩, _⟩ := okH_at hs hh id lb hl
    have hlt' : id < n := Nat.blt_eq.mp hlt
    rcases hb with ⟨hb, hno⟩ | ⟨hb, hltb⟩
    · obtain ⟨bi, q1, q2, q3⟩ := hR.blks _ _ hb
      refine ⟨bi, by simp [rnρ, hlt', q1], ?_, q3⟩
      cases lb with
      | iter sv pos => exact q2
      | cells sz rows =>
        obtain ⟨c1, c2, c3, c4⟩ := q2
        refine ⟨c1, c2, c3, fun hp => ?_⟩
        obtain ⟨cs, ty, d1, d2, d3, d4⟩ := c4 hp
        exact ⟨cs, ty, d1, d2, d3, fun j x hx => ⟨(d4 j x hx).1, (d4 j x hx).2.noid (mem_flat hno hx)⟩⟩
    · obtain ⟨bi, q1, q2, q3⟩ := hR.blks _ _ hb
      refine ⟨bi, by simp [rnρ, hlt', q1], ?_, q3⟩
      cases lb with
      | iter sv pos => exact q2
      | cells sz rows =>
        obtain ⟨c1, c2, c3, c4⟩ := q2
        have hfl : (rows.map (List.map (AV.rn1 σ))).flatten = rows.flatten.map (AV.rn1 σ) := by rw [List.map_flatten]
        have hltr : ∀ x ∈ rows.flatten, x.lt1 n = true := fun x hx => by
          obtain ⟨r, hr, hxr⟩ := List.mem_flatten.1 hx
          exact List.all_eq_true.1 (List.all_eq_true.1 hltb r hr) x hxr
        refine ⟨c1, fun r hr => ?_, fun h0 => ?_, fun hp => ?_⟩
        · have := c2 (r.map (AV.rn1 σ)) (List.mem_map.2 ⟨r, hr, rfl⟩)
          simpa using this
        · have := c3 h0
          rw [hfl] at this
          exact List.map_eq_nil_iff.1 this
        · obtain ⟨cs, ty, d1, d2, d3, d4⟩ := c4 hp
          refine ⟨cs, ty, d1, d2, by simpa using d3, fun j x hx => ?_⟩
          have hx' : (rows.map (List.map (AV.rn1 σ))).flatten[j]? = some (x.rn1 σ) := by rw [hfl, List.getElem?_map, hx]; rfl
          exact ⟨(d4 j _ hx').1, (d4 j _ hx').2.rn1 (hltr x (List.mem_of_getElem? hx))⟩
  · obtain ⟨l1, g1⟩ := Option.isSome_iff_exists.1 h1
    obtain ⟨l2, g2⟩ := Option.isSome_iff_exists.1 h2
    obtain ⟨⟨hlt1, hb1⟩, hm1⟩ := okH_at hs hh id l1 g1
    obtain ⟨⟨hlt2, hb2⟩, hm2⟩ := okH_at hs hh id' l2 g2
    have e1 : id < n := Nat.blt_eq.mp hlt1
    have e2 : id' < n := Nat.blt_eq.mp hlt2
    simp only [rnρ, e1, e2, if_true] at r1 r2
    have hs1 : (s.h (σ id)).isSome = true := by rcases hb1 with h | h <;> rw [h.1] <;> rfl
    have hs2 : (s.h (σ id')).isSome = true := by rcases hb2 with h | h <;> rw [h.1] <;> rfl
    exact hR.inj _ _ bi bi' hs1 hs2 r1 r2 p1 p2 (distinct_inj _ σ hd id hm1 id' hm2 hne)
  · have hid' : n ≤ id := hid
    simp only [rnρ]
    rw [if_neg (by omega)]

end

theorem SW.awp {P : Program} {TT : Nat → Option TI} (hT : TTok P TT) {c : Code} {Q : Exit → St → Prop} {s : St} (h : AL.awp P TT c Q s) : SW P c Q s := awp_sound hT c Q s h

theorem irows_noid (k : IntKind) (ns : List Int) : ∀ r ∈ irows k ns, ∀ x ∈ r, NoId x := by
  intro r hr x hx
  obtain ⟨n, _, rfl⟩ := List.mem_map.1 hr
  simp at hx
  subst hx
  exact .val _
theorem irows_len (k : IntKind) (ns : List Int) : (irows k ns).length = ns.length := by simp [irows]
theorem irows_get (k : IntKind) (ns : List Int) {i : Nat} {n : Int} (h : ns[i]? = some n) : (irows k ns)[i]? = some [.val (.int k n)] := by simp [irows, h]
theorem irows_set (k : IntKind) (ns : List Int) (i : Nat) (n : Int) : (irows k ns).set i [.val (.int k n)] = irows k (ns.set i n) := by simp [irows, List.map_set]
theorem irows_take (k : IntKind) (ns : List Int) (i : Nat) : (irows k ns).take i = irows k (ns.take i) := by simp [irows]
theorem irows_drop (k : IntKind) (ns : List Int) (i : Nat) : (irows k ns).drop i = irows k (ns.drop i) := by simp [irows]
theorem irows_append (k : IntKind) (a b : List Int) : irows k a ++ irows k b = irows k (a ++ b) := by simp [irows]
theorem irows_rep (k : IntKind) (n : Nat) (v : Int) : List.replicate n [AV.val (.int k v)] = irows k (List.replicate n v) := by simp [irows]

end Go.AL
