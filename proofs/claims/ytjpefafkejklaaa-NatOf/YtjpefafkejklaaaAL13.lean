/- An abstract program logic over tree values (part 13): contracts and calls. -/
import Derived.Test.YtjpefafkejklaaaAL12
set_option linter.unusedVariables false
set_option linter.unusedSimpArgs false
namespace Go.AL
open Go Go.RowKit

/-- What a call hands back: a value that names no live block, or a row that is the caller's own. -/
def RetOK (w : World) (F : Nat → Prop) (w' : World) (v : Value) : AR → Prop
  | .pure r => NoId r ∧ ∃ F', (∀ b, F b → F' b) ∧ (∀ b, F' b → b < w'.heap.size) ∧ (∀ b, F' b → F b ∨ w.heap.size ≤ b) ∧ VR w' F' (fun _ => none) v r
  | .fresh sz rows => (∀ r ∈ rows, ∀ x ∈ r, NoId x) ∧ ∃ F' bi, (∀ b, F b → F' b) ∧ (∀ b, F' b → b < w'.heap.size) ∧ (∀ b, F' b → F b ∨ w.heap.size ≤ b) ∧
      VR w' F' (putρ (fun _ => none) 0 bi) v (.own 0 0 rows.length) ∧ BR w' F' (fun _ => none) bi (.cells sz rows) ∧ (0 < bi.csz → ¬ F' bi.blk ∧ w.heap.size ≤ bi.blk)

/-- A function's contract: of such arguments it makes this. -/
structure AC (P : Program) (f : FuncId) (args : List AV) (r : AR) : Prop where
  noid : ∀ x ∈ args, NoId x
  enter : ∀ (vals : Array Value) (w : World), (callFunc f vals).run P w = .ok (.enter f vals) w
  calls : ∀ (w : World) (F : Nat → Prop) (vals : Array Value), (∀ b, F b → b < w.heap.size) → vals.size = args.length →
    (∀ (i : Nat) (x : AV), args[i]? = some x → VR w F (fun _ => none) (vals.getD i undef) x) →
    Calls P f vals w (fun e w' => ∃ v, e = .returned v ∧ Below w.heap.size w w' ∧ RetOK w F w' v r)

def AR.v (base : Nat) : AR → AV
  | .pure v => v
  | .fresh _ rows => .own base 0 rows.length
def AR.u (base : Nat) : AR → Ups
  | .pure _ => []
  | .fresh sz rows => [(base, some (.cells sz rows))]

theorem updsH_append (h : Nat → Option LB) : ∀ (u u' : Ups), updsH h (u ++ u') = updsH (updsH h u) u'
  | [], _ => rfl
  | (d, v) :: u, u' => by simp only [List.cons_append, updsH]; exact updsH_append _ u u'

section
variable {P : Program} {TT : Nat → Option TI} {w0 w : World} {F0 F : Nat → Prop} {ρ : Nat → Option BI} {fr : Nat → Prop} {s : St} {a : Act} {b : Nat}

theorem frz_ok (hR : Rel w0 F0 F ρ fr s a w) {v : Value} {x x' : AV} {ps : List Prop} {u : Ups} {acc : Accs} (hv : VR w F ρ v x) (hf : frz s.h x = some (x', ps, u, acc)) (hp : allP ps) (hno : NoId x') :
    ∃ F', (∀ b, F b → F' b) ∧ Rel w0 F0 F' ρ fr { s with h := updsH s.h u } a w ∧ VR w F' ρ v x' := by
  unfold frz at hf
  split at hf
  · rename_i id off len
    split at hf
    · rename_i sz rows hlb
      cases hz : Nat.beq sz 0 with
      | true => simp [hz] at hf
      | false =>
        simp only [hz, cond_false, Option.some.injEq, Prod.mk.injEq] at hf
        obtain ⟨rfl, rfl, rfl, rfl⟩ := hf
        simp only [allP] at hp
        have hsz : 0 < sz := Nat.pos_of_ne_zero fun e => by rw [e] at hz; simp at hz
        obtain ⟨bi, q1, q2, q3, q4, q5, q6⟩ := hR.block hlb
        obtain ⟨bi', r1, r2, r3⟩ := hR.cell hlb
        rw [q1] at r1; injection r1 with r1; subst r1
        cases hv with
        | own A _ _ _ cp bi' hr hl hA =>
          rw [q1] at hr; injection hr with hr; subst hr
          have hlen : ((rows.drop off).take len).length = len := by simp; omega
          have hw' : ∀ r ∈ (rows.drop off).take len, r.length = sz := fun r hr => q3 r (List.mem_of_mem_drop (List.mem_of_mem_take hr))
          have hsub : ((rows.drop off).take len) = (rows.take (off + len)).drop off := by rw [List.drop_take]; congr 1; omega
          have hnof : ∀ (j : Nat) (y : AV), ((rows.drop off).take len).flatten[j]? = some y → NoId y := by
            cases hno with
            | sl _ _ _ hh => exact fun j y hy => mem_flat hh hy
          let vals : Nat → Value := fun j => (w.cell? ⟨bi.blk, bi.base + off * sz + j, none⟩).getD undef
          have hc : ∀ (j : Nat) (y : AV), ((rows.drop off).take len).flatten[j]? = some y → w.cell? ⟨bi.blk, bi.base + off * sz + j, none⟩ = some (vals j) ∧ (vals j).oneCell' = true ∧ VR w F ρ (vals j) y := by
            intro j y hy
            rw [hsub] at hy
            obtain ⟨vv, c1, c2, c3⟩ := r3 _ y (flat_sub q3 off (off + len) j y hy)
            rw [← Nat.add_assoc] at c1
            have e : vals j = vv := by simp [vals, c1]
            rw [e]
            exact ⟨c1, c2, c3⟩
          by_cases hp0 : 0 < bi.csz
          · have h' := hR.freeze id bi (by rw [hlb]; rfl) q1 hp0
            have hFF : ∀ b, F b → (F b ∨ b = bi.blk) := fun b h => .inl h
            refine ⟨_, hFF, h', ?_⟩
            refine .sl A len cp sz _ false bi.blk (bi.base + off * sz) vals hlen.symm hl (by simp) hw' (fun hne => ?_) (fun j y hy => (hc j y hy).1) (fun j y hy => (hc j y hy).2.1) (fun j y hy => (hc j y hy).2.2.mono hFF (fun _ _ => rfl) (fun _ _ h => h)) hnof
            have hl0 : 0 < len := by
              apply Nat.pos_of_ne_zero
              intro e
              apply hne
              apply List.eq_nil_of_length_eq_zero
              omega
            obtain ⟨e1, e2⟩ := hA (by omega)
            rw [e1, q2]
            exact ⟨rfl, .inr rfl⟩
          · have h' := hR.forget id
            have hfl := q5 (by omega)
            have hrows : rows = [] := by
              have := flat_len rows q3
              rw [hfl] at this
              have h2 : rows.length * sz = 0 := by simpa using this.symm
              rcases Nat.mul_eq_zero.1 h2 with h | h
              · exact List.eq_nil_of_length_eq_zero h
              · omega
            subst hrows
            refine ⟨F, fun _ h => h, h', ?_⟩
            refine .sl A len cp sz _ false bi.blk (bi.base + off * sz) vals hlen.symm hl (by simp) hw' (fun hne => absurd (by simp) hne) (fun j y hy => (hc j y hy).1) (fun j y hy => (hc j y hy).2.1) (fun j y hy => (hc j y hy).2.2) hnof
    · cases hf
  · cases hf
  · cases hf
  · cases hf
  · simp only [Option.some.injEq, Prod.mk.injEq] at hf
    obtain ⟨rfl, rfl, rfl, rfl⟩ := hf
    exact ⟨F, fun _ h => h, hR, hv⟩

theorem allP_append {l l' : List Prop} (h : allP (l ++ l')) : allP l ∧ allP l' := by
  induction l with
  | nil => exact ⟨trivial, h⟩
  | cons p l ih =>
    obtain ⟨h1, h2⟩ := allP_cons (p := p) h
    obtain ⟨h3, h4⟩ := ih h2
    refine ⟨?_, h4⟩
    cases l with
    | nil => exact h1
    | cons q l => exact ⟨h1, h3⟩

theorem frzL_ok : ∀ (xs xs' : List AV) (vs : List Value) (s : St) (F : Nat → Prop) (ps : List Prop) (u : Ups) (acc : Accs), Rel w0 F0 F ρ fr s a w → vs.length = xs.length → (∀ (i : Nat) (x : AV), xs[i]? = some x → VR w F ρ (vs.getD i undef) x) →
    frzL s.h xs = some (xs', ps, u, acc) → allP ps → (∀ x ∈ xs', NoId x) →
    ∃ F', (∀ b, F b → F' b) ∧ Rel w0 F0 F' ρ fr { s with h := updsH s.h u } a w ∧ xs'.length = xs.length ∧ ∀ (i : Nat) (x : AV), xs'[i]? = some x → VR w F' ρ (vs.getD i undef) x
  | [], xs', vs, s, F, ps, u, acc, hR, hl, hv, hf, hp, hno => by
    simp only [frzL, Option.some.injEq, Prod.mk.injEq] at hf
    obtain ⟨rfl, rfl, rfl, rfl⟩ := hf
    exact ⟨F, fun _ h => h, hR, rfl, fun i x hx => by simp at hx⟩
  | x :: xs, xs', vs, s, F, ps, u, acc, hR, hl, hv, hf, hp, hno => by
    cases vs with
    | nil => simp at hl
    | cons v vs =>
      simp only [frzL] at hf
      cases h1 : frz s.h x with
      | none => simp [h1] at hf
      | some q =>
        obtain ⟨x1, p1, u1, a1⟩ := q
        simp only [h1] at hf
        cases h2 : frzL (updsH s.h u1) xs with
        | none => simp [h2] at hf
        | some q =>
          obtain ⟨xs2, p2, u2, a2⟩ := q
          simp only [h2, Option.some.injEq, Prod.mk.injEq] at hf
          obtain ⟨rfl, rfl, rfl, rfl⟩ := hf
          obtain ⟨hp1, hp2⟩ := allP_append hp
          obtain ⟨F1, g1, g2, g3⟩ := frz_ok hR (hv 0 x rfl) h1 hp1 (hno _ (by simp))
          obtain ⟨F2, k1, k2, k3, k4⟩ := frzL_ok xs xs2 vs { s with h := updsH s.h u1 } F1 p2 u2 a2 g2 (by simpa using hl) (fun i y hy => (hv (i + 1) y hy).mono g1 (fun _ _ => rfl) (fun _ _ h => h)) h2 hp2 (fun x hx => hno x (by simp [hx]))
          refine ⟨F2, fun b hb => k1 b (g1 b hb), by simpa [updsH_append] using k2, by simp [k3], fun i y hy => ?_⟩
          cases i with
          | zero => simp at hy; subst hy; exact g3.mono k1 (fun _ _ => rfl) (fun _ _ h => h)
          | succ i => exact k4 i y (by simpa using hy)

theorem frzA_ok : ∀ (xs xs' : List AV) (vs : List Value) (s : St) (F : Nat → Prop) (ps : List Prop) (u : Ups) (acc : Accs), Rel w0 F0 F ρ fr s a w → vs.length = xs.length → (∀ (i : Nat) (x : AV), xs[i]? = some x → VR w F ρ (vs.getD i undef) x) →
    frzA s.h xs = some (xs', ps, u, acc) → allP ps → (∀ x ∈ xs', NoId x) →
    ∃ F', (∀ b, F b → F' b) ∧ Rel w0 F0 F' ρ fr { s with h := updsH s.h u } a w ∧ xs'.length = xs.length ∧ ∀ (i : Nat) (x : AV), xs'[i]? = some x → VR w F' ρ (vs.getD i undef) x
  | [], xs', vs, s, F, ps, u, acc, hR, hl, hv, hf, hp, hno => by
    simp only [frzA, Option.some.injEq, Prod.mk.injEq] at hf
    obtain ⟨rfl, rfl, rfl, rfl⟩ := hf
    exact ⟨F, fun _ h => h, hR, rfl, fun i x hx => by simp at hx⟩
  | x :: xs, xs', vs, s, F, ps, u, acc, hR, hl, hv, hf, hp, hno => by
    cases vs with
    | nil => simp at hl
    | cons v vs =>
      have step : ∀ (x1 : AV) (p1 : List Prop) (u1 : Ups) (a1 : Accs), (allP p1 → NoId x1 → ∃ F1, (∀ b, F b → F1 b) ∧ Rel w0 F0 F1 ρ fr { s with h := updsH s.h u1 } a w ∧ VR w F1 ρ v x1) →
          (match frzA (updsH s.h u1) xs with
            | some (xs2, p2, u2, a2) => some (x1 :: xs2, p1 ++ p2, u1 ++ u2, a1 ++ a2)
            | none => none) = some (xs', ps, u, acc) →
          ∃ F', (∀ b, F b → F' b) ∧ Rel w0 F0 F' ρ fr { s with h := updsH s.h u } a w ∧ xs'.length = (x :: xs).length ∧ ∀ (i : Nat) (y : AV), xs'[i]? = some y → VR w F' ρ ((v :: vs).getD i undef) y := by
        intro x1 p1 u1 a1 hone hf
        cases h2 : frzA (updsH s.h u1) xs with
        | none => simp [h2] at hf
        | some q =>
          obtain ⟨xs2, p2, u2, a2⟩ := q
          simp only [h2, Option.some.injEq, Prod.mk.injEq] at hf
          obtain ⟨rfl, rfl, rfl, rfl⟩ := hf
          obtain ⟨hp1, hp2⟩ := allP_append hp
          obtain ⟨F1, g1, g2, g3⟩ := hone hp1 (hno _ (by simp))
          obtain ⟨F2, k1, k2, k3, k4⟩ := frzA_ok xs xs2 vs { s with h := updsH s.h u1 } F1 p2 u2 a2 g2 (by simpa using hl) (fun i y hy => (hv (i + 1) y hy).mono g1 (fun _ _ => rfl) (fun _ _ h => h)) h2 hp2 (fun x hx => hno x (by simp [hx]))
          refine ⟨F2, fun b hb => k1 b (g1 b hb), by simpa [updsH_append] using k2, by simp [k3], fun i y hy => ?_⟩
          cases i with
          | zero => simp at hy; subst hy; exact g3.mono k1 (fun _ _ => rfl) (fun _ _ h => h)
          | succ i => exact k4 i y (by simpa using hy)
      have hv0 := hv 0 x rfl
      unfold frzA at hf
      split at hf
      · rename_i he; cases he
      · rename_i cs xs2 he
        injection he with e1 e2
        subst e1 e2
        cases h1 : frzL s.h cs with
        | none => simp [h1] at hf
        | some q =>
          obtain ⟨cs1, p1, u1, a1⟩ := q
          simp only [h1] at hf
          refine step (.agg cs1) p1 u1 a1 (fun hp1 hno1 => ?_) hf
          have hv0' : VR w F ρ v (.agg cs) := hv0
          cases hv0' with
          | agg vs0 _ h h1' h2' =>
            obtain ⟨F1, g1, g2, g3, g4⟩ := frzL_ok cs cs1 vs0.toList s F p1 u1 a1 hR (by simpa using h) (fun i y hy => by have := h2' i y hy; simpa [Array.getD_eq_getD_getElem?, List.getD] using this) h1 hp1 (by cases hno1 with | agg _ hh => exact hh)
            refine ⟨F1, g1, g2, .agg vs0 cs1 (by omega) (fun i y hy => ?_) (fun i y hy => by have := g4 i y hy; simpa [Array.getD_eq_getD_getElem?, List.getD] using this)⟩
            have hi : i < cs.length := by have := (List.getElem?_eq_some_iff.1 hy).1; omega
            exact h1' i _ (List.getElem?_eq_getElem hi)
      · rename_i x2 xs2 hna he
        injection he with e1 e2
        subst e1 e2
        cases h1 : frz s.h x with
        | none => simp [h1] at hf
        | some q =>
          obtain ⟨x1, p1, u1, a1⟩ := q
          simp only [h1] at hf
          exact step x1 p1 u1 a1 (fun hp1 hno1 => frz_ok hR hv0 h1 hp1 hno1) hf

/-- No call. -/
def Res.nc : Res → Prop
  | .call _ _ _ _ _ => False
  | _ => True
theorem rlen_nc (i : TI) (x : AV) : (rlen i x).nc := by unfold rlen; repeat' (first | trivial | split)
theorem rmin_nc (l : List AV) : (rmin l).nc := by unfold rmin; simp only [cond_eq_ite]; repeat' (first | trivial | split)
theorem rmax_nc (l : List AV) : (rmax l).nc := by unfold rmax; simp only [cond_eq_ite]; repeat' (first | trivial | split)
theorem rappend_nc (j : TI) (b : Nat) (h : Nat → Option LB) (x y : AV) : (rappend j b h x y).nc := by unfold rappend; simp only [cond_eq_ite]; repeat' (first | trivial | split)
theorem rcopy_nc (j : TI) (h : Nat → Option LB) (x y : AV) : (rcopy j h x y).nc := by unfold rcopy; simp only [cond_eq_ite]; repeat' (first | trivial | split)
theorem rbin_nc (op : BinOp) (i : TI) (x y : Value) : (rbin op i x y).nc := by unfold rbin; simp only [cond_eq_ite]; repeat' (first | trivial | split)
theorem runop_nc (op : UnOp) (x : Value) : (runop op x).nc := by unfold runop; repeat' (first | trivial | split)
theorem rload_nc (i : TI) (h : Nat → Option LB) (x : AV) : (rload i h x).nc := by unfold rload; simp only [cond_eq_ite]; repeat' (first | trivial | split)
theorem rstore_nc (i : TI) (h : Nat → Option LB) (xs : List AV) (x : AV) : (rstore i h xs x).nc := by unfold rstore; simp only [cond_eq_ite]; repeat' (first | trivial | split)
theorem rslice_nc (i : TI) (TT : Nat → Option TI) (h : Nat → Option LB) (x : AV) (lo hi mx : Option AV) : (rslice i TT h x lo hi mx).nc := by unfold rslice; simp only [cond_eq_ite]; repeat' (first | trivial | split)
theorem rindexAddr_nc (j : TI) (h : Nat → Option LB) (i : Int) (x : AV) : (rindexAddr j h i x).nc := by unfold rindexAddr; simp only [cond_eq_ite]; repeat' (first | trivial | split)
theorem rconv_nc (TT : Nat → Option TI) (b : Nat) (h : Nat → Option LB) (p q : TI) (x : AV) : (rconv TT b h p q x).nc := by unfold rconv; repeat' (first | trivial | split)
theorem not_nc {r : Res} (h : r.nc) {f : Nat} {args : List AV} {ps : List Prop} {u : Ups} {acc : Accs} (e : r = .call f args ps u acc) : False := by rw [e] at h; exact h

theorem rcall_inv {ev : Operand → AV} {h : Nat → Option LB} {c : Call} {f : Nat} {args : List AV} {ps : List Prop} {u : Ups} {acc : Accs} (hg : rcall TT ev h b c = .call f args ps u acc) :
    ∃ g, c.callee = .value g ∧ ev g = .val (.func (.func f) #[] #[]) ∧ frzA h (c.args.toList.map ev) = some (args, ps, u, acc) := by
  unfold rcall at hg
  split at hg
  · exfalso
    split at hg
    · split at hg
      · exact not_nc (rlen_nc _ _) hg
      · cases hg
    · split at hg
      · split at hg
        · split at hg
          · split at hg
            · exact not_nc (rappend_nc _ _ _ _ _) hg
            · exact not_nc (rappend_nc _ _ _ _ _) hg
            · cases hg
          · cases hg
        · cases hg
      · cases hg
    · split at hg
      · split at hg
        · split at hg
          · exact not_nc (rcopy_nc _ _ _ _) hg
          · cases hg
        · cases hg
      · cases hg
    · exact not_nc (rmin_nc _) hg
    · exact not_nc (rmax_nc _) hg
    · cases hg
  · rename_i g hc
    split at hg
    · rename_i f' hev
      split at hg
      · rename_i args' ps' u' a' hfz
        injection hg with e1 e2 e3 e4 e5
        subst e1 e2 e3 e4 e5
        exact ⟨g, hc, hev, hfz⟩
      · cases hg
    · cases hg
  · cases hg

end
end Go.AL
