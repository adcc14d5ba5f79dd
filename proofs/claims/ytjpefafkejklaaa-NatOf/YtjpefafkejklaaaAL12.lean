/- An abstract program logic over tree values (part 12): every operation that calls nothing; contracts; calls. -/
import Derived.Test.YtjpefafkejklaaaAL11
set_option linter.unusedVariables false
set_option linter.unusedSimpArgs false
namespace Go.AL
open Go Go.RowKit

section
variable {P : Program} {TT : Nat → Option TI} {w0 w : World} {F0 F : Nat → Prop} {ρ : Nat → Option BI} {fr : Nat → Prop} {s : St} {a : Act} {b : Nat}

theorem rload_inv {i : TI} {h : Nat → Option LB} {x v : AV} {u : Ups} {acc : Accs} (hg : (rload i h x).gives v u acc) :
    ∃ row c, (v = part i row c ∧ u = []) ∧ okd i = true ∧ ((∃ id sz, x = .lp id c ∧ h id = some (.cells sz [row]) ∧ c + i.size ≤ row.length) ∨
      (∃ id sz rows r, x = .li id r c ∧ h id = some (.cells sz rows) ∧ c + i.size ≤ sz ∧ rows[r]? = some row) ∨ (x = .fp row c ∧ c + i.size ≤ row.length)) := by
  unfold rload at hg
  split at hg
  · rename_i id c
    split at hg
    · rename_i sz row hl
      cases hc : (okd i && Nat.ble (c + i.size) row.length) with
      | false => simp [hc] at hg; exact hg.elim
      | true =>
        simp only [hc, cond_true] at hg
        obtain ⟨rfl, rfl, rfl⟩ := hg
        simp only [Bool.and_eq_true, Nat.ble_eq] at hc
        exact ⟨row, c, ⟨rfl, rfl⟩, hc.1, .inl ⟨id, sz, rfl, hl, hc.2⟩⟩
    · exact hg.elim
  · rename_i id r c
    split at hg
    · rename_i sz rows hl
      cases hc : (okd i && Nat.ble (c + i.size) sz) with
      | false => simp [hc] at hg; exact hg.elim
      | true =>
        simp only [hc, cond_true] at hg
        obtain ⟨row, hr, rfl, rfl, rfl⟩ := hg
        simp only [Bool.and_eq_true, Nat.ble_eq] at hc
        exact ⟨row, c, ⟨rfl, rfl⟩, hc.1, .inr (.inl ⟨id, sz, rows, r, rfl, hl, hc.2, hr⟩)⟩
    · exact hg.elim
  · rename_i row c
    cases hc : (okd i && Nat.ble (c + i.size) row.length) with
    | false => simp [hc] at hg; exact hg.elim
    | true =>
      simp only [hc, cond_true] at hg
      obtain ⟨rfl, rfl, rfl⟩ := hg
      simp only [Bool.and_eq_true, Nat.ble_eq] at hc
      exact ⟨row, c, ⟨rfl, rfl⟩, hc.1, .inr (.inr ⟨rfl, hc.2⟩)⟩
  · exact hg.elim

theorem rstore_inv (hR : Rel w0 F0 F ρ fr s a w) {i : TI} {xs : List AV} {x v : AV} {u : Ups} {acc : Accs} (hsz : xs.length = i.size) (h0 : 0 < i.size) (hg : (rstore i s.h xs x).gives v u acc) :
    v = .any ∧ ∃ id sz rows r row c, u = [(id, some (.cells sz (rows.set r (spl row c xs))))] ∧ s.h id = some (.cells sz rows) ∧ rows[r]? = some row ∧ c + i.size ≤ sz ∧
      (x = .li id r c ∨ (x = .lp id c ∧ r = 0)) := by
  unfold rstore at hg
  split at hg
  · rename_i id c
    split at hg
    · rename_i sz row hl
      cases hc : (Nat.ble (c + i.size) row.length) with
      | false => simp [hc] at hg; exact hg.elim
      | true =>
        simp only [hc, cond_true] at hg
        obtain ⟨rfl, rfl, rfl⟩ := hg
        simp only [Nat.ble_eq] at hc
        obtain ⟨bi, q1, q2, q3, _⟩ := hR.block hl
        have := q3 row (by simp)
        exact ⟨rfl, id, sz, [row], 0, row, c, rfl, hl, rfl, by omega, .inr ⟨rfl, rfl⟩⟩
    · exact hg.elim
  · rename_i id r c
    split at hg
    · rename_i sz rows hl
      cases hc : (Nat.beq i.size sz && Nat.beq c 0) with
      | true =>
        simp only [hc, cond_true] at hg
        obtain ⟨hr, rfl, rfl, rfl⟩ := hg
        simp only [Bool.and_eq_true, Nat.beq_eq] at hc
        have h1 : i.size = sz := by simpa using hc.1
        have h2 : c = 0 := by simpa using hc.2
        subst h2
        obtain ⟨bi, q1, q2, q3, _⟩ := hR.block hl
        have hrow : rows[r]? = some rows[r] := List.getElem?_eq_getElem hr
        have hrl : rows[r].length = sz := q3 _ (List.getElem_mem hr)
        have e : spl rows[r] 0 xs = xs := by
          unfold spl
          simp
          omega
        exact ⟨rfl, id, sz, rows, r, rows[r], 0, by rw [e], hl, hrow, by omega, .inl rfl⟩
      | false =>
        simp only [hc, cond_false] at hg
        cases hc2 : (Nat.ble (c + i.size) sz) with
        | false => simp [hc2] at hg; exact hg.elim
        | true =>
          simp only [hc2, cond_true] at hg
          obtain ⟨row, hr, rfl, rfl, rfl⟩ := hg
          simp only [Nat.ble_eq] at hc2
          exact ⟨rfl, id, sz, rows, r, row, c, rfl, hl, hr, hc2, .inl rfl⟩
    · exact hg.elim
  · exact hg.elim

theorem args_one {c : Call} {ev : Operand → AV} {x : AV} (h : c.args.toList.map ev = [x]) : ∃ y, c.args = #[y] ∧ ev y = x := by
  rcases hcl : c.args with ⟨l⟩
  rw [hcl] at h
  rcases l with _ | ⟨y, _ | ⟨z, l⟩⟩ <;> simp at h
  exact ⟨y, rfl, h⟩
theorem args_two {c : Call} {ev : Operand → AV} {x y : AV} (h : c.args.toList.map ev = [x, y]) : ∃ p q, c.args = #[p, q] ∧ ev p = x ∧ ev q = y := by
  rcases hcl : c.args with ⟨l⟩
  rw [hcl] at h
  rcases l with _ | ⟨p, _ | ⟨q, _ | ⟨z, l⟩⟩⟩ <;> simp at h
  exact ⟨p, q, rfl, h.1, h.2⟩

theorem append_sound {o : Oper} {c : Call} {x y : Operand} {t u' e : Nat} {i j k : TI} {v : AV} {u : Ups} {acc : Accs} (hT : TTok P TT) (hR : Rel w0 F0 F ρ fr s a w) (hfr : ∀ k, k < 8 → fr (b + k))
    (ho : o.op = .call c) (hc : c.callee = .builtin .append) (hpq : c.args = #[x, y]) (hty : c.argTypes = #[t, u']) (hi : TT t = some i) (hd : i.d = .slice e) (hj : TT e = some j) (hk : TT u' = some k) (hkd : (∃ q, k.d = .slice q) ∨ k.d = .str)
    (hg : (rappend j b s.h (aval s.t x) (aval s.t y)).gives v u acc) : Post P o a w w0 F0 fr b { s with h := updsH s.h u } v := by
  unfold rappend at hg
  split at hg
  · rename_i sz' ys ps acc' hsrc
    cases hc1 : ((Nat.beq j.size sz' || Nat.beq ys.length 0) && !Nat.beq j.bytes 0) with
    | false => simp [hc1] at hg; exact hg.elim
    | true =>
      simp only [hc1, cond_true] at hg
      simp only [Bool.and_eq_true, Bool.or_eq_true, Bool.not_eq_true'] at hc1
      have hs : j.size = sz' ∨ ys = [] := by
        rcases hc1.1 with h | h
        · exact .inl (Nat.eq_of_beq_eq_true h)
        · exact .inr (List.eq_nil_of_length_eq_zero (Nat.eq_of_beq_eq_true h))
      have hb0 : 0 < j.bytes := by
        apply Nat.pos_of_ne_zero
        intro e
        have := hc1.2
        rw [e] at this
        exact absurd this (by decide)
      split at hg
      · rename_i sz rows hx
        cases hc2 : (Nat.beq j.size sz || Nat.beq rows.length 0) with
        | false => simp [hc2] at hg; exact hg.elim
        | true =>
          simp only [hc2, cond_true] at hg
          obtain ⟨hp, rfl, rfl, rfl⟩ := hg
          obtain ⟨h1, hp⟩ := allP_cons hp
          obtain ⟨h2, hp⟩ := allP_cons hp
          simp only [Bool.or_eq_true] at hc2
          exact op_append_tight hT hR hfr ho hc hpq hty hi hd hj hk hkd hsrc hp hs hx (by
            rcases hc2 with h | h
            · exact .inl (Nat.eq_of_beq_eq_true h)
            · exact .inr (List.eq_nil_of_length_eq_zero (Nat.eq_of_beq_eq_true h))) h1 h2 hb0
      · rename_i id off len hx
        split at hg
        · rename_i sz rows hlb
          cases hc2 : (Nat.beq j.size sz) with
          | false => simp [hc2] at hg; exact hg.elim
          | true =>
            simp only [hc2, cond_true] at hg
            obtain ⟨hp, rfl, rfl, rfl⟩ := hg
            obtain ⟨h1, hp⟩ := allP_cons hp
            obtain ⟨h2, hp⟩ := allP_cons hp
            exact op_append_own hT hR hfr ho hc hpq hty hi hd hj hk hkd hsrc hp hs hx hlb (Nat.eq_of_beq_eq_true hc2) h1 h2 hb0
        · exact hg.elim
      · exact hg.elim
  · exact hg.elim

theorem rcall_sound (hT : TTok P TT) (hR : Rel w0 F0 F ρ fr s a w) (hfr : ∀ k, k < 8 → fr (b + k)) {o : Oper} {c : Call} (ho : o.op = .call c) {v : AV} {u : Ups} {acc : Accs} (hg : (rcall TT (aval s.t) s.h b c).gives v u acc) :
    Post P o a w w0 F0 fr b { s with h := updsH s.h u } v := by
  unfold rcall at hg
  split at hg
  · rename_i bb hc
    split at hg
    · rename_i x t _ hargs htys
      obtain ⟨y, hy1, hy2⟩ := args_one hargs
      subst hy2
      split at hg
      · rename_i i hi
        exact op_len hT hR ho hc hy1 (by rw [← Array.getElem?_toList, htys]; rfl) hi hg
      · exact hg.elim
    · rename_i x y t u' hargs htys
      obtain ⟨p, q, hpq, rfl, rfl⟩ := args_two hargs
      have hty : c.argTypes = #[t, u'] := by apply Array.ext'; rw [htys]
      split at hg
      · rename_i i hi
        split at hg
        · rename_i e hd
          split at hg
          · rename_i j k hj hk
            have hkd : ((∃ q, k.d = .slice q) ∨ k.d = .str) ∧ (rappend j b s.h (aval s.t p) (aval s.t q)).gives v u acc := by
              split at hg
              · rename_i q' hkq; exact ⟨.inl ⟨q', hkq⟩, hg⟩
              · rename_i hkq; exact ⟨.inr hkq, hg⟩
              · exact hg.elim
            exact append_sound hT hR hfr ho hc hpq hty hi hd hj hk hkd.1 hkd.2
          · exact hg.elim
        · exact hg.elim
      · exact hg.elim
    · rename_i x y t _ hargs htys
      obtain ⟨p, q, hpq, rfl, rfl⟩ := args_two hargs
      split at hg
      · rename_i i hi
        split at hg
        · rename_i e hd
          split at hg
          · rename_i j hj
            unfold rcopy at hg
            split at hg
            · rename_i sz' ys ps acc' id off len hsrc hx
              split at hg
              · rename_i sz rows hlb
                cases hc1 : (Nat.beq j.size sz' && Nat.beq j.size sz) with
                | false => simp [hc1] at hg; exact hg.elim
                | true =>
                  simp only [hc1, cond_true] at hg
                  obtain ⟨hp, rfl, rfl, rfl⟩ := hg
                  obtain ⟨h1, hp⟩ := allP_cons hp
                  simp only [Bool.and_eq_true, Nat.beq_eq] at hc1
                  exact op_copy hT hR ho hc hpq (by rw [← Array.getElem?_toList, htys]; rfl) hi hd hj hsrc hp (by simpa using hc1.1) hx hlb (by simpa using hc1.2) h1
              · exact hg.elim
            · exact hg.elim
          · exact hg.elim
        · exact hg.elim
      · exact hg.elim
    · exact op_min hR ho hc hg
    · exact op_max hR ho hc hg
    · exact hg.elim
  · split at hg
    · split at hg
      · exact hg.elim
      · exact hg.elim
    · exact hg.elim
  · exact hg.elim

/-- Every operation that calls nothing. -/
theorem aop_sound (hT : TTok P TT) (hR : Rel w0 F0 F ρ fr s a w) (hfr : ∀ k, k < 8 → fr (b + k)) {o : Oper} {v : AV} {u : Ups} {acc : Accs} (hg : (aop TT o (aval s.t) s.h b).gives v u acc) :
    Post P o a w w0 F0 fr b { s with h := updsH s.h u } v := by
  unfold aop at hg
  split at hg
  · rename_i x ho
    obtain ⟨rfl, rfl, rfl⟩ := hg
    exact Post.val hR (by simp [execOp, ho]) (hR.aval x)
  · rename_i x ho
    obtain ⟨rfl, rfl, rfl⟩ := hg
    exact Post.val hR (by simp [execOp, ho]) (hR.aval x)
  · rename_i c x y ho
    split at hg
    · rename_i p hc
      have hce : a.eval c = .bool p := by have := hR.aval c; rw [hc] at this; exact this.val_inv
      rcases hg with ⟨hp, rfl, rfl, rfl⟩ | ⟨hp, rfl, rfl, rfl⟩
      · exact Post.val hR (by simp [execOp, ho, hce, asBool, hp]) (hR.aval x)
      · exact Post.val hR (by simp [execOp, ho, hce, asBool, hp]) (hR.aval y)
    · exact hg.elim
  · rename_i e ho
    split at hg
    · rename_i i hi
      obtain ⟨rfl, rfl, rfl⟩ := hg
      exact op_alloc hT hR hfr ho hi
    · exact hg.elim
  · rename_i e x ho
    split at hg
    · rename_i cs hc
      obtain ⟨rfl, rfl, rfl⟩ := hg
      exact op_box hR hfr ho hc
    · exact hg.elim
  · rename_i t parts ho
    split at hg
    · rename_i i hi
      split at hg
      · rename_i fs hd
        cases hc : (fs.all fun p => (TT p.2).isSome) with
        | false => simp [hc] at hg; exact hg.elim
        | true =>
          simp only [hc, cond_true] at hg
          split at hg
          · rename_i cs hf
            obtain ⟨rfl, rfl, rfl⟩ := hg
            exact op_build hT hR ho hi hd hc hf
          · exact hg.elim
      · exact hg.elim
    · exact hg.elim
  · rename_i t len parts ho
    split at hg
    · rename_i i hi
      split at hg
      · rename_i e hd
        split at hg
        · rename_i j hj
          cases hc : (Nat.ble (len * j.size) 16777216 && !Nat.beq j.size 0) with
          | false => simp [hc] at hg; exact hg.elim
          | true =>
            simp only [hc, cond_true] at hg
            simp only [Bool.and_eq_true, Nat.ble_eq, Bool.not_eq_true'] at hc
            split at hg
            · rename_i cs hf
              obtain ⟨rfl, rfl, rfl⟩ := hg
              exact op_buildSlice hT hR hfr ho hi hd hj hc.1 (fun e => by have := hc.2; rw [e] at this; simp at this) hf
            · exact hg.elim
        · exact hg.elim
      · exact hg.elim
    · exact hg.elim
  · rename_i t x ho
    split at hg
    · rename_i i hi
      exact op_load hT hR ho hi (rload_inv hg)
    · exact hg.elim
  · rename_i t x y ho
    split at hg
    · rename_i i xs hi hy
      cases hc : (Nat.beq xs.length i.size && !Nat.beq i.size 0) with
      | false => simp [hc] at hg; exact hg.elim
      | true =>
        simp only [hc, cond_true] at hg
        simp only [Bool.and_eq_true, Nat.beq_eq, Bool.not_eq_true'] at hc
        have h1 : xs.length = i.size := by simpa using hc.1
        have h0 : 0 < i.size := Nat.pos_of_ne_zero fun e => by have := hc.2; rw [e] at this; simp at this
        obtain ⟨rfl, hg'⟩ := rstore_inv hR h1 h0 hg
        exact op_store hT hR ho hi hy h1 h0 hg'
    · exact hg.elim
  · rename_i x ho
    have hv := hR.aval x
    split at hg
    · rename_i hx
      obtain ⟨rfl, rfl, rfl⟩ := hg
      rw [hx] at hv
      generalize hve : a.eval x = ve at hv
      cases hv with | lp _ _ bi hr => exact Post.val hR (by simp [execOp, ho, hve]) (.lp _ _ bi hr)
    · rename_i hx
      obtain ⟨rfl, rfl, rfl⟩ := hg
      rw [hx] at hv
      generalize hve : a.eval x = ve at hv
      cases hv with | li _ _ _ bi hr => exact Post.val hR (by simp [execOp, ho, hve]) (.li _ _ _ bi hr)
    · rename_i hx
      obtain ⟨rfl, rfl, rfl⟩ := hg
      rw [hx] at hv
      generalize hve : a.eval x = ve at hv
      cases hv with | fp _ _ bl o' vals hF g0 g1 g2 g3 => exact Post.val hR (by simp [execOp, ho, hve]) (.fp _ _ bl o' vals hF g0 g1 g2 g3)
    · rename_i hx
      obtain ⟨rfl, rfl, rfl⟩ := hg
      rw [hx] at hv
      have hve := hv.val_inv
      exact Post.val hR (by simp [execOp, ho, hve]) (.val _)
    · exact hg.elim
  · rename_i op xt x y _ ho
    split at hg
    · rename_i i va vb hi hx hy
      have e1 : a.eval x = va := by have := hR.aval x; rw [hx] at this; exact this.val_inv
      have e2 : a.eval y = vb := by have := hR.aval y; rw [hy] at this; exact this.val_inv
      obtain ⟨rfl, r, rfl, hr⟩ := run_rbin (P := P) (x := x) (y := y) (hT xt i hi) hg w
      refine Post.val hR (v := r) ?_ (.val _)
      simp only [execOp, ho, e1, e2, Sem.run_bind] at hr ⊢
      rw [hr]
      rfl
    · exact hg.elim
  · rename_i op _ x ho
    split at hg
    · rename_i va hx
      have e1 : a.eval x = va := by have := hR.aval x; rw [hx] at this; exact this.val_inv
      obtain ⟨rfl, r, rfl, hr⟩ := run_runop (P := P) hg w
      exact Post.val hR (v := r) (by simp [execOp, ho, e1, hr]) (.val _)
    · exact hg.elim
  · rename_i t d x ho
    split at hg
    · rename_i p q hp hq
      exact op_conv hT hR hfr ho hp hq hg
    · exact hg.elim
  · rename_i t l c ho
    split at hg
    · rename_i i hi
      split at hg
      · rename_i e hd
        split at hg
        · rename_i j kl n kc m hj hl hc
          cases hb : (ikeq kl .i64 && ikeq kc .i64 && !Nat.beq j.bytes 0) with
          | false => simp [hb] at hg; exact hg.elim
          | true =>
            simp only [hb, cond_true] at hg
            simp only [Bool.and_eq_true, Bool.not_eq_true'] at hb
            obtain ⟨⟨b1, b2⟩, b3⟩ := hb
            have := ikeq_eq b1
            subst this
            have := ikeq_eq b2
            subst this
            obtain ⟨⟨h0, h1, h2⟩, rfl, rfl, rfl⟩ := hg
            exact op_makeSlice hT hR hfr ho hi hd hj hl hc h0 h1 h2 (Nat.pos_of_ne_zero fun e => by rw [e] at b3; simp at b3)
        · exact hg.elim
      · exact hg.elim
    · exact hg.elim
  · rename_i t x lo hi mx ho
    split at hg
    · rename_i i hi'
      exact op_slice hT hR ho hi' hg
    · exact hg.elim
  · rename_i t x f ho
    split at hg
    · rename_i i hi
      split at hg
      · rename_i fs hd
        split at hg
        · rename_i off ft hf
          split at hg
          · rename_i q hq
            cases hc : (Nat.beq q.size 0) with
            | true => simp [hc] at hg; exact hg.elim
            | false =>
              simp only [hc, cond_false] at hg
              have h0 : q.size ≠ 0 := fun e => by rw [e] at hc; simp at hc
              split at hg
              · rename_i hx
                obtain ⟨rfl, rfl, rfl⟩ := hg
                exact op_fieldAddr hT hR ho hi hd hf hq h0 (.inl ⟨_, _, hx, rfl⟩)
              · rename_i hx
                obtain ⟨rfl, rfl, rfl⟩ := hg
                exact op_fieldAddr hT hR ho hi hd hf hq h0 (.inr (.inl ⟨_, _, _, hx, rfl⟩))
              · rename_i hx
                obtain ⟨rfl, rfl, rfl⟩ := hg
                exact op_fieldAddr hT hR ho hi hd hf hq h0 (.inr (.inr ⟨_, _, hx, rfl⟩))
              · exact hg.elim
          · exact hg.elim
        · exact hg.elim
      · exact hg.elim
    · exact hg.elim
  · rename_i t x f ho
    split at hg
    · rename_i i hi
      split at hg
      · rename_i fs hd
        split at hg
        · rename_i off ft cs hf hx
          split at hg
          · rename_i q hq
            cases hc : (okd q && Nat.ble (off + q.size) cs.length) with
            | false => simp [hc] at hg; exact hg.elim
            | true =>
              simp only [hc, cond_true] at hg
              simp only [Bool.and_eq_true, Nat.ble_eq] at hc
              obtain ⟨rfl, rfl, rfl⟩ := hg
              exact op_field hT hR ho hi hd hf hq hx hc.1 hc.2
          · exact hg.elim
        · exact hg.elim
      · exact hg.elim
    · exact hg.elim
  · rename_i t x ix ho
    split at hg
    · rename_i i hi
      split at hg
      · rename_i e hd
        split at hg
        · rename_i j k n hj hix
          exact op_indexAddr hT hR ho hi hd hj hix hg
        · exact hg.elim
      · exact hg.elim
    · exact hg.elim
  · rename_i t x ix ho
    split at hg
    · rename_i i sv k n hi hx hix
      split at hg
      · rename_i hd
        obtain ⟨⟨h0, h1⟩, rfl, rfl, rfl⟩ := hg
        exact op_index hT hR ho hi hd hx hix h0 h1
      · exact hg.elim
    · exact hg.elim
  · rename_i t x ho
    split at hg
    · rename_i i sv hi hx
      split at hg
      · rename_i hd
        obtain ⟨rfl, rfl, rfl⟩ := hg
        exact op_range hT hR hfr ho hi hd hx
      · exact hg.elim
    · exact hg.elim
  · rename_i x ho
    split at hg
    · rename_i id hx
      split at hg
      · rename_i sv pos hl
        obtain ⟨h1, h2⟩ := op_next (P := P) (b := b) hR ho hx hl
        rcases hg with ⟨hp, rfl, rfl, rfl⟩ | ⟨hp, rfl, rfl, rfl⟩
        · exact h1 (by simpa using hp)
        · exact h2 (by simpa using hp)
      · exact hg.elim
    · exact hg.elim
  · rename_i x k ho
    split at hg
    · rename_i cs hx
      split at hg
      · rename_i v' hk
        obtain ⟨rfl, rfl, rfl⟩ := hg
        have hv := hR.aval x
        rw [hx] at hv
        generalize hve : a.eval x = ve at hv
        cases hv with
        | tup vs _ h h2 =>
          have hlt : k < vs.size := by have := (List.getElem?_eq_some_iff.1 hk).1; omega
          refine Post.val hR (v := vs.getD k undef) ?_ (h2 k _ hk)
          simp [execOp, ho, hve, Instr.extract, hlt]
      · exact hg.elim
    · exact hg.elim
  · rename_i c ho
    exact rcall_sound hT hR hfr ho hg
  · exact hg.elim

end
end Go.AL
