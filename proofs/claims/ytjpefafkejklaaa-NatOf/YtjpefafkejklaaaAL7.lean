/- An abstract program logic over tree values (part 7): cuts, places, conversions, iterators. -/
import Derived.Test.YtjpefafkejklaaaAL6
set_option linter.unusedVariables false
set_option linter.unusedSimpArgs false
namespace Go.AL
open Go Go.RowKit

section
variable {P : Program} {TT : Nat → Option TI} {w0 w : World} {F0 F : Nat → Prop} {ρ : Nat → Option BI} {fr : Nat → Prop} {s : St} {a : Act} {b : Nat}

theorem under_of {t : Nat} {i : TI} (h : TIok P t i) : ∃ d, P.underlying t = some d ∧ sdOf d = i.d := by
  obtain ⟨d, inf, z', hu, hsd, _⟩ := h
  exact ⟨d, hu, hsd⟩
theorem under_slice {t e : Nat} {i : TI} (h : TIok P t i) (hd : i.d = .slice e) : P.underlying t = some (.slice e) := by
  obtain ⟨d, hu, hsd⟩ := under_of h
  rw [hd] at hsd
  cases d <;> simp [sdOf] at hsd
  rw [hu, hsd]
theorem under_str {t : Nat} {i : TI} (h : TIok P t i) (hd : i.d = .str) : P.underlying t = some .string := by
  obtain ⟨d, hu, hsd⟩ := under_of h
  rw [hd] at hsd
  cases d <;> simp [sdOf] at hsd
  exact hu
theorem under_int {t : Nat} {i : TI} {k : IntKind} (h : TIok P t i) (hd : i.d = .int k) : P.underlying t = some (.int k) := by
  obtain ⟨d, hu, hsd⟩ := under_of h
  rw [hd] at hsd
  cases d <;> simp [sdOf] at hsd
  rw [hu, hsd]
theorem under_struct {t : Nat} {i : TI} {fs : List (Nat × Nat)} (h : TIok P t i) (hd : i.d = .struct fs) : ∃ fields, P.underlying t = some (.struct fields) ∧ fs = fields.toList.map fun f => (f.offset, f.type) := by
  obtain ⟨d, hu, hsd⟩ := under_of h
  rw [hd] at hsd
  cases d <;> simp [sdOf] at hsd
  rename_i fields
  exact ⟨fields, hu, hsd.symm⟩

theorem VR.int_inv {v : Value} {k : IntKind} {n : Int} (h : VR w F ρ v (.val (.int k n))) : v = .int k n := by cases h; rfl
theorem VR.val_inv {v v' : Value} (h : VR w F ρ v (.val v')) : v = v' := by cases h; rfl

theorem bnd_l {len : Nat} {y : AV} {q : Prop × Nat × Nat × Bool} (h : bnd len (some y) none none = some q) : ∃ k l, y = .val (.int k l) ∧ q = (0 ≤ l ∧ l ≤ (len : Int), l.toNat, len, false) := by
  cases y <;> try (cases h; done)
  rename_i v
  cases v <;> try (cases h; done)
  exact ⟨_, _, rfl, (Option.some.inj h).symm⟩
theorem bnd_h {len : Nat} {y : AV} {q : Prop × Nat × Nat × Bool} (h : bnd len none (some y) none = some q) : ∃ k l, y = .val (.int k l) ∧ q = (0 ≤ l ∧ l ≤ (len : Int), 0, l.toNat, false) := by
  cases y <;> try (cases h; done)
  rename_i v
  cases v <;> try (cases h; done)
  exact ⟨_, _, rfl, (Option.some.inj h).symm⟩
theorem bnd_lh {len : Nat} {y z : AV} {q : Prop × Nat × Nat × Bool} (h : bnd len (some y) (some z) none = some q) : ∃ k l k' u, y = .val (.int k l) ∧ z = .val (.int k' u) ∧ q = (0 ≤ l ∧ l ≤ u ∧ u ≤ (len : Int), l.toNat, u.toNat, false) := by
  cases y <;> try (cases h; done)
  rename_i v
  cases v <;> try (cases h; done)
  cases z <;> try (cases h; done)
  rename_i v
  cases v <;> try (cases h; done)
  exact ⟨_, _, _, _, rfl, rfl, (Option.some.inj h).symm⟩
theorem bnd_hm {len : Nat} {y z : AV} {q : Prop × Nat × Nat × Bool} (h : bnd len none (some y) (some z) = some q) : ∃ k l k' u, y = .val (.int k l) ∧ z = .val (.int k' u) ∧ q = (0 ≤ l ∧ l = u ∧ l ≤ (len : Int), 0, l.toNat, true) := by
  cases y <;> try (cases h; done)
  rename_i v
  cases v <;> try (cases h; done)
  cases z <;> try (cases h; done)
  rename_i v
  cases v <;> try (cases h; done)
  exact ⟨_, _, _, _, rfl, rfl, (Option.some.inj h).symm⟩
theorem bnd_lhm {len : Nat} {x y z : AV} {q : Prop × Nat × Nat × Bool} (h : bnd len (some x) (some y) (some z) = some q) : ∃ k l k' u k2 m, x = .val (.int k l) ∧ y = .val (.int k' u) ∧ z = .val (.int k2 m) ∧ q = (0 ≤ l ∧ l ≤ u ∧ u = m ∧ u ≤ (len : Int), l.toNat, u.toNat, true) := by
  cases x <;> try (cases h; done)
  rename_i v
  cases v <;> try (cases h; done)
  cases y <;> try (cases h; done)
  rename_i v
  cases v <;> try (cases h; done)
  cases z <;> try (cases h; done)
  rename_i v
  cases v <;> try (cases h; done)
  exact ⟨_, _, _, _, _, _, rfl, rfl, rfl, (Option.some.inj h).symm⟩

/-- The machine's bounds are the abstract ones. -/
theorem run_bnd {len cap : Nat} {isS : Bool} {lo hi mx : Option Operand} {c : Prop} {l u : Nat} {f : Bool} (hR : Rel w0 F0 F ρ fr s a w) (hlc : len ≤ cap)
    (hg : bnd len (lo.map (aval s.t)) (hi.map (aval s.t)) (mx.map (aval s.t)) = some (c, l, u, f)) (hc : c) :
    l ≤ u ∧ u ≤ len ∧ ∃ m, (Instr.sliceBounds isS len cap (lo.map a.eval) (hi.map a.eval) (mx.map a.eval)).run P w = .ok (l, u, m) w ∧ u ≤ m ∧ m ≤ cap ∧ (f = true → m = u) ∧ (f = false → m = cap) := by
  have ev : ∀ (x : Operand) (k : IntKind) (n : Int), aval s.t x = .val (.int k n) → a.eval x = .int k n := fun x k n h => by
    have := hR.aval x; rw [h] at this; exact this.int_inv
  cases lo with
  | none =>
    cases hi with
    | none =>
      cases mx with
      | none =>
        simp only [Option.map_none, bnd, Option.some.injEq, Prod.mk.injEq] at hg
        obtain ⟨rfl, rfl, rfl, rfl⟩ := hg
        exact ⟨by omega, by omega, cap, by simp [Instr.sliceBounds], hlc, by omega, by simp, by simp⟩
      | some x => cases hg
    | some y =>
      cases mx with
      | none =>
        obtain ⟨k, n, hy, hq⟩ := bnd_h hg
        simp only [Prod.mk.injEq] at hq
        obtain ⟨rfl, rfl, rfl, rfl⟩ := hq
        have e := ev y k n hy
        refine ⟨by omega, by omega, cap, ?_, by omega, by omega, by simp, by simp⟩
        have hb : 0 ≤ n ∧ n ≤ (cap : Int) := by omega
        simp [Instr.sliceBounds, Instr.sliceBound, asIntOf, e, hb]
      | some z =>
        obtain ⟨k, n, k2, n2, hy, hz, hq⟩ := bnd_hm hg
        simp only [Prod.mk.injEq] at hq
        obtain ⟨rfl, rfl, rfl, rfl⟩ := hq
        have e := ev y k n hy
        have e2 := ev z k2 n2 hz
        obtain ⟨h1, rfl, h3⟩ := hc
        refine ⟨by omega, by omega, n.toNat, ?_, by omega, by omega, by simp, by simp⟩
        have hb : 0 ≤ n ∧ n ≤ (cap : Int) := by omega
        have hb2 : n ≤ ((n.toNat : Nat) : Int) := by omega
        have hmx : max n 0 = n := by omega
        simp [Instr.sliceBounds, Instr.sliceBound, asIntOf, e, e2, hb, hmx, h1]
  | some x =>
    cases hi with
    | none =>
      cases mx with
      | none =>
        obtain ⟨k, n, hy, hq⟩ := bnd_l hg
        simp only [Prod.mk.injEq] at hq
        obtain ⟨rfl, rfl, rfl, rfl⟩ := hq
        have e := ev x k n hy
        refine ⟨by omega, by omega, cap, ?_, by omega, by omega, by simp, by simp⟩
        simp [Instr.sliceBounds, Instr.sliceBound, asIntOf, e, hc]
      | some z =>
        simp only [Option.map_none, Option.map_some] at hg
        unfold bnd at hg
        split at hg <;> first | (cases hg; done) | simp_all
    | some y =>
      cases mx with
      | none =>
        obtain ⟨k, n, k2, n2, hy, hz, hq⟩ := bnd_lh hg
        simp only [Prod.mk.injEq] at hq
        obtain ⟨rfl, rfl, rfl, rfl⟩ := hq
        have e := ev x k n hy
        have e2 := ev y k2 n2 hz
        obtain ⟨h1, h2, h3⟩ := hc
        refine ⟨by omega, by omega, cap, ?_, by omega, by omega, by simp, by simp⟩
        have hb : 0 ≤ n2 ∧ n2 ≤ (cap : Int) := by omega
        have hb2 : 0 ≤ n ∧ n ≤ ((n2.toNat : Nat) : Int) := by omega
        have hmx : max n2 0 = n2 := by omega
        simp [Instr.sliceBounds, Instr.sliceBound, asIntOf, e, e2, hb, hmx, h1, h2]
      | some z =>
        obtain ⟨k, n, k2, n2, k3, n3, hy, hz, hz3, hq⟩ := bnd_lhm hg
        simp only [Prod.mk.injEq] at hq
        obtain ⟨rfl, rfl, rfl, rfl⟩ := hq
        have e := ev x k n hy
        have e2 := ev y k2 n2 hz
        have e3 := ev z k3 n3 hz3
        obtain ⟨h1, h2, rfl, h4⟩ := hc
        refine ⟨by omega, by omega, n2.toNat, ?_, by omega, by omega, by simp, by simp⟩
        have hb : 0 ≤ n2 ∧ n2 ≤ (cap : Int) := by omega
        have hb1 : 0 ≤ n2 ∧ n2 ≤ ((n2.toNat : Nat) : Int) := by omega
        have hb2 : 0 ≤ n ∧ n ≤ ((n2.toNat : Nat) : Int) := by omega
        have hmx : max n2 0 = n2 := by omega
        simp [Instr.sliceBounds, Instr.sliceBound, asIntOf, e, e2, e3, hb, hmx, h1, h2]

theorem flat_sub {α : Type} {sz : Nat} {rows : List (List α)} (hw : ∀ r ∈ rows, r.length = sz) (l u j : Nat) (x : α) (hx : ((rows.take u).drop l).flatten[j]? = some x) : rows.flatten[l * sz + j]? = some x := by
  have hw' : ∀ r ∈ (rows.take u).drop l, r.length = sz := fun r hr => hw r (List.mem_of_mem_take (List.mem_of_mem_drop hr))
  have hs : 0 < sz := by
    apply Nat.pos_of_ne_zero
    intro e
    have := (List.getElem?_eq_some_iff.1 hx).1
    rw [flat_len _ hw', e] at this
    omega
  rw [flat_get hs _ hw'] at hx
  rw [flat_get hs _ hw]
  have h1 : (l * sz + j) / sz = l + j / sz := by rw [Nat.mul_comm, Nat.mul_add_div hs]
  have h2 : (l * sz + j) % sz = j % sz := by rw [Nat.mul_comm, Nat.mul_add_mod]
  rw [h1, h2]
  rw [List.getElem?_drop, List.getElem?_take] at hx
  split at hx
  · exact hx
  · simp at hx

theorem op_slice {o : Oper} {t : Nat} {x : Operand} {lo hi mx : Option Operand} {i : TI} {v : AV} {u : Ups} {acc : Accs} (hT : TTok P TT) (hR : Rel w0 F0 F ρ fr s a w) (ho : o.op = .slice t x lo hi mx) (hi' : TT t = some i)
    (hg : (rslice i TT s.h (aval s.t x) (lo.map (aval s.t)) (hi.map (aval s.t)) (mx.map (aval s.t))).gives v u acc) :
    Post P o a w w0 F0 fr b { s with h := updsH s.h u } v := by
  have ht := hT t i hi'
  have hx := hR.aval x
  unfold rslice at hg
  split at hg
  · rename_i sv hid hsv
    have hu := under_str ht hid
    have hxe : a.eval x = .string sv := by rw [hsv] at hx; exact hx.val_inv
    cases hm : mx.map (aval s.t) with
    | some z => rw [hm] at hg; exact hg.elim
    | none =>
      rw [hm] at hg
      have hmx : mx = none := by cases mx <;> simp at hm ⊢
      subst hmx
      cases hb : bnd sv.size (lo.map (aval s.t)) (hi.map (aval s.t)) none with
      | none => rw [hb] at hg; exact hg.elim
      | some q =>
        obtain ⟨c, l, q, f⟩ := q
        rw [hb] at hg
        obtain ⟨hc, rfl, rfl, rfl⟩ := hg
        obtain ⟨h1, h2, m, h3, h4, h5, h6, h7⟩ := run_bnd (P := P) (isS := false) (mx := none) hR (Nat.le_refl sv.size) hb hc
        refine Post.val hR (v := .string (sv.extract l q)) ?_ (.val _)
        simp only [Option.map_none] at h3
        simp [execOp, ho, Instr.sliceAt, run_underlying hu, hxe, Instr.slice, h3]
  · rename_i e sz rows tg hid hsl
    have hu := under_slice ht hid
    cases hj : TT e with
    | none => simp only [hj] at hg; exact hg.elim
    | some j =>
      simp only [hj] at hg
      cases hcond : (Nat.beq j.size sz || Nat.beq rows.length 0) with
      | false => simp [hcond] at hg; exact hg.elim
      | true =>
        simp only [hcond, cond_true] at hg
        have hsz := run_sizeOf (hT e j hj) w
        rw [hsl] at hx
        generalize hve : a.eval x = ve at hx
        cases hx with
        | sl A n cp _ _ _ bl of vals hn hcp htt hw hA g0 g1 g2 g3 =>
          cases hb : bnd rows.length (lo.map (aval s.t)) (hi.map (aval s.t)) (mx.map (aval s.t)) with
          | none => rw [hb] at hg; exact hg.elim
          | some q =>
            obtain ⟨c, l, q, f⟩ := q
            rw [hb] at hg
            obtain ⟨hc, rfl, rfl, rfl⟩ := hg
            obtain ⟨h1, h2, m, h3, h4, h5, h6, h7⟩ := run_bnd (P := P) (isS := true) (len := rows.length) (cap := cp) hR (by omega) hb hc
            have hrl : ((rows.take q).drop l).length = q - l := by simp; omega
            subst hn
            refine Post.val hR (v := .slice (if m = l then A else A.map (·.add (l * j.size))) (q - l) (m - l)) ?_ ?_
            · simp [execOp, ho, Instr.sliceAt, run_underlying hu, hve, Instr.slice, h3, hsz]
            · have hne : (rows.take q).drop l ≠ [] → rows ≠ [] := fun h e => h (by simp [e])
              have hsz' : (rows.take q).drop l ≠ [] → j.size = sz := by
                intro h
                have hne' := hne h
                simp only [Bool.or_eq_true, Nat.beq_eq] at hcond
                rcases hcond with h' | h'
                · simpa using h'
                · exfalso; apply hne'; apply List.eq_nil_of_length_eq_zero; simpa using h'
              refine .sl _ _ _ sz _ f bl (of + l * sz) (fun k => vals (l * sz + k)) hrl.symm (by omega) (fun hf => by have := h6 hf; omega) (fun r hr => hw r (List.mem_of_mem_take (List.mem_of_mem_drop hr))) (fun hr => ?_)
                (fun k y hy => ?_) (fun k y hy => ?_) (fun k y hy => ?_) (fun k y hy => g3 _ y (flat_sub hw l q k y hy))
              · obtain ⟨e1, e2⟩ := hA (hne hr)
                have hlt : l < q := by
                  apply Nat.lt_of_not_le
                  intro hle
                  apply hr
                  apply List.eq_nil_of_length_eq_zero
                  omega
                rw [if_neg (by omega), e1]
                simp [addr_add, hsz' hr, e2]
              · have := g0 _ y (flat_sub hw l q k y hy)
                rwa [← Nat.add_assoc] at this
              · exact g1 _ y (flat_sub hw l q k y hy)
              · exact g2 _ y (flat_sub hw l q k y hy)
  · rename_i e id off len hid hown
    have hu := under_slice ht hid
    cases hj : TT e with
    | none => simp only [hj] at hg; exact hg.elim
    | some j =>
      cases hlb : s.h id with
      | none => simp only [hj, hlb] at hg; exact hg.elim
      | some lb =>
        cases lb with
        | iter _ _ => simp only [hj, hlb] at hg; exact hg.elim
        | cells sz rows =>
          simp only [hj, hlb] at hg
          cases hcond : (Nat.beq j.size sz) with
          | false => simp [hcond] at hg; exact hg.elim
          | true =>
            simp only [hcond, cond_true] at hg
            have hjs : j.size = sz := by simpa using hcond
            have hsz := run_sizeOf (hT e j hj) w
            obtain ⟨bi, q1, q2, _⟩ := hR.block hlb
            rw [hown] at hx
            generalize hve : a.eval x = ve at hx
            cases hx with
            | own A _ _ _ cp bi' hr hl hA =>
              rw [q1] at hr; injection hr with hr; subst hr
              cases hb : bnd len (lo.map (aval s.t)) (hi.map (aval s.t)) (mx.map (aval s.t)) with
              | none => rw [hb] at hg; exact hg.elim
              | some q =>
                obtain ⟨c, l, q, f⟩ := q
                rw [hb] at hg
                cases f with
                | true => exact hg.elim
                | false =>
                  obtain ⟨hc, rfl, rfl, rfl⟩ := hg
                  obtain ⟨h1, h2, m, h3, h4, h5, h6, h7⟩ := run_bnd (P := P) (isS := true) (len := len) (cap := cp) hR hl hb hc
                  refine Post.val hR (v := .slice (if m = l then A else A.map (·.add (l * j.size))) (q - l) (m - l)) ?_ ?_
                  · simp [execOp, ho, Instr.sliceAt, run_underlying hu, hve, Instr.slice, h3, hsz]
                  · refine .own _ id (off + l) (q - l) (m - l) bi q1 (by omega) (fun hp => ?_)
                    obtain ⟨e1, e2⟩ := hA (by omega)
                    rw [if_neg (by omega), e1]
                    refine ⟨by simp [addr_add, hjs, q2, Nat.add_mul, Nat.add_assoc], ?_⟩
                    have : off + l + (m - l) ≤ off + cp := by omega
                    have := Nat.mul_le_mul_right bi.sz this
                    omega
  · exact hg.elim

theorem op_fieldAddr {o : Oper} {t f : Nat} {x : Operand} {i q : TI} {fs : List (Nat × Nat)} {off ft : Nat} {v : AV} (hT : TTok P TT) (hR : Rel w0 F0 F ρ fr s a w) (ho : o.op = .fieldAddr t x f) (hi : TT t = some i) (hd : i.d = .struct fs)
    (hf : fs[f]? = some (off, ft)) (hq : TT ft = some q) (h0 : q.size ≠ 0)
    (hg : (∃ id c, aval s.t x = .lp id c ∧ v = .lp id (c + off)) ∨ (∃ id r c, aval s.t x = .li id r c ∧ v = .li id r (c + off)) ∨ (∃ row c, aval s.t x = .fp row c ∧ v = .fp row (c + off))) :
    Post P o a w w0 F0 fr b s v := by
  have ht := hT t i hi
  obtain ⟨fields, hu, hfs⟩ := under_struct ht hd
  have hsz := run_sizeOf (hT ft q hq) w
  have hfld : ∃ fd, fields[f]? = some fd ∧ fd.offset = off ∧ fd.type = ft := by
    rw [hfs] at hf
    simp only [List.getElem?_map, Array.getElem?_toList] at hf
    cases hfd : fields[f]? with
    | none => simp [hfd] at hf
    | some fd => simp [hfd] at hf; exact ⟨fd, rfl, hf.1, hf.2⟩
  obtain ⟨fd, hfd, hfo, hft⟩ := hfld
  have hx := hR.aval x
  have fin : ∀ bl k, a.eval x = .pointer (some ⟨bl, k, none⟩) → (execOp a.eval o).run P w = .ok (.value (.pointer (some ⟨bl, k + off, none⟩))) w := by
    intro bl k he
    simp [execOp, ho, Instr.fieldAt, run_underlying hu, hfd, he, Instr.sureAddr, fieldPlace, hft, hsz, h0, addr_add, hfo]
  rcases hg with ⟨id, c, h1, rfl⟩ | ⟨id, r, c, h1, rfl⟩ | ⟨row, c, h1, rfl⟩
  · rw [h1] at hx
    generalize hv : a.eval x = vx at hx
    cases hx with | lp _ _ bi hr =>
      have := fin _ _ hv
      rw [Nat.add_assoc] at this
      exact Post.val hR this (.lp id _ bi hr)
  · rw [h1] at hx
    generalize hv : a.eval x = vx at hx
    cases hx with | li _ _ _ bi hr =>
      have := fin _ _ hv
      rw [Nat.add_assoc] at this
      exact Post.val hR this (.li id r _ bi hr)
  · rw [h1] at hx
    generalize hv : a.eval x = vx at hx
    cases hx with | fp _ _ bl o' vals hF g0 g1 g2 g3 =>
      have := fin _ _ hv
      rw [Nat.add_assoc] at this
      exact Post.val hR this (.fp row _ bl o' vals hF g0 g1 g2 g3)

theorem run_part {t : Nat} {q : TI} (h : TIok P t q) (hk : okd q = true) (cells : Array Value) (cs : List AV) (off : Nat) (hc : CR w F ρ cells cs) (hle : off + q.size ≤ cs.length) :
    ∃ v, (Go.part t cells off).run P w = .ok v w ∧ VR w F ρ v (part q cs off) := by
  have hsz := run_sizeOf h w
  obtain ⟨d, hu, hsd⟩ := under_of h
  have hcs := hc.1
  unfold okd at hk
  unfold AL.part
  cases hd : q.d <;> simp only [hd] at hk hsd ⊢
  case struct fs =>
    have : ∃ fields, d = .struct fields := by cases d <;> simp [sdOf] at hsd; exact ⟨_, rfl⟩
    obtain ⟨fields, rfl⟩ := this
    refine ⟨.agg (cells.extract off (off + q.size)), by simp [Go.part, isAgg, run_underlying hu, hsz], ?_⟩
    refine .agg _ _ (by simp; omega) (fun j x hx => ?_) (fun j x hx => ?_)
    all_goals
      rw [List.getElem?_take] at hx
      split at hx
      · rename_i hj
        rw [List.getElem?_drop] at hx
        have e : (cells.extract off (off + q.size)).getD j undef = cells.getD (off + j) undef := by
          simp only [Array.getD_eq_getD_getElem?, Array.getElem?_extract]
          rw [if_pos (by omega)]
        rw [e]
        first | exact (hc.2 _ x hx).1 | exact (hc.2 _ x hx).2
      · cases hx
  case other => cases hk
  all_goals
    have h1 : q.size = 1 := by simpa using hk
    simp only [hk, cond_true]
    have hx : cs[off]? = some (cs[off]'(by omega)) := List.getElem?_eq_getElem (by omega)
    have e : cs.getD off .any = cs[off]'(by omega) := by simp [List.getD, hx]
    rw [e]
    refine ⟨cells.getD off undef, ?_, (hc.2 off _ hx).2⟩
    have hlt : off < cells.size := by omega
    cases d <;> simp [sdOf] at hsd <;> simp [Go.part, isAgg, run_underlying hu, hlt]

theorem op_field {o : Oper} {t f : Nat} {x : Operand} {i q : TI} {fs : List (Nat × Nat)} {off ft : Nat} {cs : List AV} (hT : TTok P TT) (hR : Rel w0 F0 F ρ fr s a w) (ho : o.op = .field t x f) (hi : TT t = some i) (hd : i.d = .struct fs)
    (hf : fs[f]? = some (off, ft)) (hq : TT ft = some q) (hx : aval s.t x = .agg cs) (hk : okd q = true) (hle : off + q.size ≤ cs.length) :
    Post P o a w w0 F0 fr b s (part q cs off) := by
  have ht := hT t i hi
  obtain ⟨fields, hu, hfs⟩ := under_struct ht hd
  have hfld : ∃ fd, fields[f]? = some fd ∧ fd.offset = off ∧ fd.type = ft := by
    rw [hfs] at hf
    simp only [List.getElem?_map, Array.getElem?_toList] at hf
    cases hfd : fields[f]? with
    | none => simp [hfd] at hf
    | some fd => simp [hfd] at hf; exact ⟨fd, rfl, hf.1, hf.2⟩
  obtain ⟨fd, hfd, hfo, hft⟩ := hfld
  have hv := hR.aval x
  rw [hx] at hv
  generalize hve : a.eval x = ve at hv
  cases hv with
  | agg vs _ h h1 h2 =>
    obtain ⟨v, g1, g2⟩ := run_part (w := w) (F := F) (ρ := ρ) (hT ft q hq) hk vs cs off ⟨h, fun j y hy => ⟨h1 j y hy, h2 j y hy⟩⟩ hle
    refine Post.val hR (v := v) ?_ g2
    simp [execOp, ho, Instr.field, run_underlying hu, hfd, hve, asAgg, hfo, hft, g1]

theorem op_indexAddr {o : Oper} {t e : Nat} {x ix : Operand} {i j : TI} {k : IntKind} {n : Int} {v : AV} {u : Ups} {acc : Accs} (hT : TTok P TT) (hR : Rel w0 F0 F ρ fr s a w) (ho : o.op = .indexAddr t x ix) (hi : TT t = some i) (hd : i.d = .slice e) (hj : TT e = some j)
    (hix : aval s.t ix = .val (.int k n)) (hg : (rindexAddr j s.h n (aval s.t x)).gives v u acc) :
    Post P o a w w0 F0 fr b { s with h := updsH s.h u } v := by
  have ht := hT t i hi
  have hu := under_slice ht hd
  have hsz := run_sizeOf (hT e j hj) w
  have hie : a.eval ix = .int k n := by have := hR.aval ix; rw [hix] at this; exact this.int_inv
  have hx := hR.aval x
  unfold rindexAddr at hg
  split at hg
  · rename_i sz rows tg hsl
    cases hcond : (Nat.beq j.size sz) with
    | false => simp [hcond] at hg; exact hg.elim
    | true =>
      have hjs : j.size = sz := by simpa using hcond
      simp only [hcond, cond_true] at hg
      obtain ⟨row, ⟨hn, hrow⟩, rfl, rfl, rfl⟩ := hg
      rw [hsl] at hx
      generalize hve : a.eval x = ve at hx
      cases hx with
      | sl A m cp _ _ _ bl of vals hm hcp htt hw hA g0 g1 g2 g3 =>
        have hlt : n.toNat < rows.length := (List.getElem?_eq_some_iff.1 hrow).1
        obtain ⟨e1, e2⟩ := hA (fun e => by simp [e] at hlt)
        have hb : 0 ≤ n ∧ n < (m : Int) := by omega
        refine Post.val hR (v := .pointer (some ⟨bl, of + n.toNat * j.size + 0, none⟩)) ?_ ?_
        · simp [execOp, ho, Instr.indexAt, run_underlying hu, hie, asIntOf, hve, e1, hb, hsz, addr_add]
        · refine .fp row 0 bl (of + n.toNat * j.size) (fun q => vals (n.toNat * sz + q)) e2 (fun q y hy => ?_) (fun q y hy => ?_) (fun q y hy => ?_) (fun q y hy => g3 _ y (flat_row hw hrow hy))
          · have := g0 _ y (flat_row hw hrow hy)
            rw [hjs]
            rwa [← Nat.add_assoc] at this
          · exact g1 _ y (flat_row hw hrow hy)
          · exact g2 _ y (flat_row hw hrow hy)
  · rename_i id off len hown
    cases hlb : s.h id with
    | none => simp only [hlb] at hg; exact hg.elim
    | some lb =>
      cases lb with
      | iter _ _ => simp only [hlb] at hg; exact hg.elim
      | cells sz rows =>
        simp only [hlb] at hg
        cases hcond : (Nat.beq j.size sz) with
        | false => simp [hcond] at hg; exact hg.elim
        | true =>
          have hjs : j.size = sz := by simpa using hcond
          simp only [hcond, cond_true] at hg
          obtain ⟨hb, rfl, rfl, rfl⟩ := hg
          obtain ⟨bi, q1, q2, _⟩ := hR.block hlb
          rw [hown] at hx
          generalize hve : a.eval x = ve at hx
          cases hx with
          | own A _ _ _ cp bi' hr hl hA =>
            rw [q1] at hr; injection hr with hr; subst hr
            obtain ⟨e1, e2⟩ := hA (by omega)
            refine Post.val hR (v := .pointer (some ⟨bi.blk, bi.base + (off + n.toNat) * bi.sz + 0, none⟩)) ?_ (.li id (off + n.toNat) 0 bi q1)
            simp [execOp, ho, Instr.indexAt, run_underlying hu, hie, asIntOf, hve, e1, hb, hsz, addr_add, hjs, q2, Nat.add_mul, Nat.add_assoc]
  · exact hg.elim

theorem op_index {o : Oper} {t : Nat} {x ix : Operand} {i : TI} {sv : ByteArray} {k : IntKind} {n : Int} (hT : TTok P TT) (hR : Rel w0 F0 F ρ fr s a w) (ho : o.op = .index t x ix) (hi : TT t = some i) (hd : i.d = .str)
    (hx : aval s.t x = .val (.string sv)) (hix : aval s.t ix = .val (.int k n)) (h0 : 0 ≤ n) (h1 : n < (sv.size : Int)) :
    Post P o a w w0 F0 fr b s (.val (.int .u8 (byteAt sv n))) := by
  have hu := under_str (hT t i hi) hd
  have hie : a.eval ix = .int k n := by have := hR.aval ix; rw [hix] at this; exact this.int_inv
  have hxe : a.eval x = .string sv := by have := hR.aval x; rw [hx] at this; exact this.val_inv
  refine Post.val hR (v := .int .u8 (byteAt sv n)) ?_ (.val _)
  have hlt : n.toNat < sv.size := by omega
  have hlt' : n.toNat < sv.data.size := hlt
  have hb : sv[n.toNat]? = some sv[n.toNat] := by simp [hlt]
  have hb2 : sv.data.toList.getD n.toNat 0 = sv[n.toNat] := by
    have : sv.data.toList[n.toNat]? = some sv[n.toNat] := by rw [Array.getElem?_toList, Array.getElem?_eq_getElem hlt']; rfl
    simp only [List.getD, this, Option.getD_some]
  simp only [execOp, ho, Instr.index, hie, asIntOf, Sem.run_bind, run_underlying hu, hxe, h0, hb, byteAt, hb2, Sem.run_pure, Result.andThen_ok, if_true]

theorem op_range {o : Oper} {t : Nat} {x : Operand} {i : TI} {sv : ByteArray} (hT : TTok P TT) (hR : Rel w0 F0 F ρ fr s a w) (hfr : ∀ k, k < 8 → fr (b + k)) (ho : o.op = .range t x) (hi : TT t = some i) (hd : i.d = .str)
    (hx : aval s.t x = .val (.string sv)) : Post P o a w w0 F0 fr b { s with h := updH s.h b (some (.iter sv 0)) } (.it b) := by
  have hu := under_str (hT t i hi) hd
  have hxe : a.eval x = .string sv := by have := hR.aval x; rw [hx] at this; exact this.val_inv
  have h' : Rel w0 F0 F ρ fr s a (w.alloc (.stringIter sv 0)) := hR.world (by simp) (fun k hk => Below.heap_alloc w _ k hk) rfl rfl rfl
  have h2 := h'.name b (hfr 0 (by omega)) ⟨w.heap.size, 0, 1, 1⟩ (.iter sv 0) ⟨by show 0 < 1; omega, heap_alloc_new w _⟩ (fun _ => ⟨fun hF => by have := hR.Fb _ hF; simp at this, hR.below.size⟩) (by
    intro hp id' bi' hi hr hp' he
    have h1 : bi'.blk < w.heap.size := hR.blk_lt hi hr hp'
    rw [he] at h1
    exact Nat.lt_irrefl _ h1)
  refine ⟨.value (.pointer (some ⟨w.heap.size, 0, none⟩)), _, _, ?_, .inl rfl, F, _, h2.mono_fr (fun j hj => ⟨hj.1, fun e => hj.2 ⟨by omega, by omega⟩⟩), .it b ⟨w.heap.size, 0, 1, 1⟩ (by simp [putρ])⟩
  simp [execOp, ho, Instr.range, run_underlying hu, hxe]

theorem op_next {o : Oper} {x : Operand} {id pos : Nat} {sv : ByteArray} (hR : Rel w0 F0 F ρ fr s a w) (ho : o.op = .next x true) (hx : aval s.t x = .it id) (hl : s.h id = some (.iter sv pos)) :
    (pos < sv.size → Post P o a w w0 F0 fr b { s with h := updH s.h id (some (.iter sv (pos + (Utf8.decode sv pos).2))) } (.tup [.val (.bool true), .val (.int .i64 pos), .val (.int .i32 (Utf8.decode sv pos).1)])) ∧
    (¬ pos < sv.size → Post P o a w w0 F0 fr b s (.tup [.val (.bool false)])) := by
  obtain ⟨bi, q1, q2, q3⟩ := hR.blks id _ hl
  obtain ⟨hp, hg⟩ := q2
  have hv := hR.aval x
  rw [hx] at hv
  generalize hve : a.eval x = ve at hv
  cases hv with
  | it _ bi' hr =>
    rw [q1] at hr; injection hr with hr; subst hr
    constructor
    · intro hlt
      have hlt2 : bi.blk < w.heap.size := (Array.getElem?_eq_some_iff.1 hg).1
      let w' : World := { w with heap := w.heap.setIfInBounds bi.blk (.stringIter sv (pos + (Utf8.decode sv pos).2)) }
      have hoth : ∀ k, k ≠ bi.blk → w'.heap[k]? = w.heap[k]? := fun k hk => by simp [w', Array.getElem?_setIfInBounds_ne (Ne.symm hk)]
      have hnF := (q3 hp).1
      have hge := (q3 hp).2
      have hF : ∀ b, F b → w'.heap[b]? = w.heap[b]? := fun b hb => hoth b (fun e => hnF (e ▸ hb))
      have hrun : (execOp a.eval o).run P w = .ok (.value (.tuple #[.bool true, .int .i64 pos, .int .i32 (Utf8.decode sv pos).1])) w' := by
        have hgo : (getObj bi.blk).run P w = .ok (.stringIter sv pos) w := by simp [getObj, Sem.run, hg]
        have hso : (setObj bi.blk (.stringIter sv (pos + (Utf8.decode sv pos).2))).run P w = .ok () w' := by simp [setObj, Sem.run, hg, w']
        simp [execOp, ho, Instr.next, hve, hgo, hlt, hso, goInt]
      refine ⟨_, w', _, hrun, .inl rfl, F, ρ, ?_, ?_⟩
      · refine Rel.mono_fr (fr := fr) { hR with below := ?_, Fb := fun b hb => by simpa [w'] using hR.Fb b hb, vals := fun t => (hR.vals t).mono (fun _ h => h) hF (fun _ _ h => h), blks := fun j lb hj => ?_, inj := fun i j b1 b2 h1 h2 => ?_ } (fun _ h => h.1)
        · exact hR.below.trans ⟨rfl, rfl, rfl, by simp [w'], fun k hk => hoth k (by omega)⟩
        · by_cases e : j = id
          · subst e
            have hj' : updH s.h j _ j = some lb := hj
            rw [updH_same] at hj'; injection hj' with hj'; subst hj'
            exact ⟨bi, q1, ⟨hp, by simp [w', hlt2]⟩, q3⟩
          · have hj' : updH s.h id _ j = some lb := hj
            rw [updH_ne _ _ e] at hj'
            obtain ⟨b', p1, p2, p3⟩ := hR.blks j lb hj'
            exact ⟨b', p1, p2.mono (fun _ h => h) hF (fun _ _ h => h) (fun hp' => hoth _ (hR.inj j id b' bi (by rw [hj']; rfl) (by rw [hl]; rfl) p1 q1 hp' hp e)), p3⟩
        · have g : ∀ k, ((updH s.h id (some (.iter sv (pos + (Utf8.decode sv pos).2)))) k).isSome = true → (s.h k).isSome = true := by
            intro k hk
            by_cases e : k = id
            · subst e; rw [hl]; rfl
            · rwa [updH_ne _ _ e] at hk
          exact hR.inj i j b1 b2 (g i h1) (g j h2)
      · refine .tup _ _ rfl (fun i y hy => ?_)
        rcases i with _ | _ | _ | i <;> simp at hy <;> subst hy <;> exact .val _
    · intro hlt
      refine Post.val hR (v := .tuple #[.bool false]) ?_ (.tup _ _ rfl (fun i y hy => ?_))
      · have hgo : (getObj bi.blk).run P w = .ok (.stringIter sv pos) w := by simp [getObj, Sem.run, hg]
        simp [execOp, ho, Instr.next, hve, hgo, hlt]
      · rcases i with _ | i <;> simp at hy
        subst hy; exact .val _

end
end Go.AL
