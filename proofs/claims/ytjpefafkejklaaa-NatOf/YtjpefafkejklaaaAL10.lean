/- An abstract program logic over tree values (part 10): copy, length, least, greatest, conversions. -/
import Derived.Test.YtjpefafkejklaaaAL9
set_option linter.unusedVariables false
set_option linter.unusedSimpArgs false
namespace Go.AL
open Go Go.RowKit

section
variable {P : Program} {TT : Nat → Option TI} {w0 w : World} {F0 F : Nat → Prop} {ρ : Nat → Option BI} {fr : Nat → Prop} {s : St} {a : Act} {b : Nat}

theorem exec_builtin {o : Oper} {c : Call} {bi : Builtin} (ho : o.op = .call c) (hc : c.callee = .builtin bi) (args : Array Value) (ha : c.args.map a.eval = args) (f : Sem Value)
    (hf : ∀ cs, builtin bi c.argTypes o.type cs args = (do pure (.value (← f)) : Sem Next)) {v : Value} {w' : World} (hr : f.run P w = .ok v w') : (execOp a.eval o).run P w = .ok (.value v) w' := by
  simp only [execOp, ho, resolve, hc, invoke, Sem.run_bind, Sem.run_pure, Result.andThen_ok, ha, hf, hr]

theorem op_copy {o : Oper} {c : Call} {x y : Operand} {t e : Nat} {i j : TI} {id off len sz sz' : Nat} {rows ys : List (List AV)} {ps : List Prop} {acc : Accs} (hT : TTok P TT) (hR : Rel w0 F0 F ρ fr s a w)
    (ho : o.op = .call c) (hc : c.callee = .builtin .copy) (hargs : c.args = #[x, y]) (htys : c.argTypes[0]? = some t) (hi : TT t = some i) (hd : i.d = .slice e) (hj : TT e = some j)
    (hsrc : rsrc s.h (aval s.t y) = some (sz', ys, ps, acc)) (hps : allP ps) (hs : j.size = sz') (hx : aval s.t x = .own id off len) (hlb : s.h id = some (.cells sz rows)) (hsz : j.size = sz)
    (hle : off + len ≤ rows.length) :
    Post P o a w w0 F0 fr b { s with h := updH s.h id (some (.cells sz (rows.take off ++ ys.take (Nat.min ys.length len) ++ rows.drop (off + Nat.min ys.length len)))) } (.val (.int .i64 (Nat.min ys.length len))) := by
  subst hsz
  have hu := under_slice (hT t i hi) hd
  obtain ⟨hlen, hwy, news, hnl, hncr, hnf⟩ := src_ok (P := P) hR hsrc hps (.inl hs)
  have hszr := run_sizeOf (hT e j hj) w
  obtain ⟨bi, q1, q2, q3, q4, q5, q6⟩ := hR.block hlb
  have hv := hR.aval x
  rw [hx] at hv
  generalize hve : a.eval x = ve at hv
  have hn : ∃ n, n = Nat.min ys.length len := ⟨_, rfl⟩
  obtain ⟨n, hn⟩ := hn
  rw [← hn]
  have hn1 : n ≤ ys.length := by rw [hn]; exact Nat.min_le_left _ _
  have hn2 : n ≤ len := by rw [hn]; exact Nat.min_le_right _ _
  have hneq := hnf n hn1 w rfl
  have hty : ∃ l, c.argTypes = l ∧ l[0]? = some t := ⟨_, rfl, htys⟩
  cases hv with
  | own A _ _ _ cp bi' hr hl hA =>
    rw [q1] at hr; injection hr with hr; subst hr
    have hexec : ∀ w', (∀ ad, A = some ad → (storeCells ad (news.take (n * j.size))).run P w = .ok () w') → (A = none → w' = w) → (execOp a.eval o).run P w = .ok (.value (.int .i64 n)) w' := by
      intro w' h1 h2
      refine exec_builtin (P := P) ho hc #[.slice A len cp, a.eval y] (by simp [hargs, hve]) (Builtin.copy_ c.argTypes o.type #[.slice A len cp, a.eval y]) (fun _ => rfl) ?_
      cases A with
      | none =>
        have := h2 rfl
        subst this
        simp [Builtin.copy_, htys, run_underlying hu, hlen, ← hn, hszr, hneq, goInt]
      | some ad =>
        simp [Builtin.copy_, htys, run_underlying hu, hlen, ← hn, hszr, hneq, h1 ad rfl, goInt]
    by_cases hn0 : n * j.size = 0
    · have hnn : news.take (n * j.size) = [] := by rw [hn0]; rfl
      have hrun := hexec w (fun ad _ => by rw [hnn]; simp [storeCells]) (fun _ => rfl)
      refine ⟨_, w, _, hrun, .inl rfl, F, ρ, ?_, .val _⟩
      -- nothing is written: the rows are as long as before, and have no cells or stay
      by_cases hnz : n = 0
      · have e1 : rows.take off ++ ys.take n ++ rows.drop (off + n) = rows := by rw [hnz]; simp
        rw [e1]
        have e2 : updH s.h id (some (.cells j.size rows)) = s.h := by
          funext q
          by_cases e : q = id
          · subst e; rw [updH_same, hlb]
          · rw [updH_ne _ _ e]
        rw [e2]
        exact hR.mono_fr (fun _ h => h.1)
      · have hjz : j.size = 0 := by
          rcases Nat.mul_eq_zero.1 hn0 with h | h
          · exact absurd h hnz
          · exact h
        have hrz : ∀ l : List (List AV), (∀ r ∈ l, r.length = j.size) → l.flatten = [] := fun l hl => List.eq_nil_of_length_eq_zero (by rw [flat_len _ hl, hjz]; simp)
        have hall : ∀ r ∈ rows.take off ++ ys.take n ++ rows.drop (off + n), r.length = j.size := fun r hr => by
          rcases List.mem_append.1 hr with h | h
          · rcases List.mem_append.1 h with h | h
            · exact q3 r (List.mem_of_mem_take h)
            · exact hwy r (List.mem_of_mem_take h)
          · exact q3 r (List.mem_of_mem_drop h)
        have hbase := hR
        refine Rel.mono_fr (fr := fr) { hR with blks := fun k lb hk => ?_, inj := fun k k' b1 b2 h1 h2 => ?_ } (fun _ h => h.1)
        · by_cases e : k = id
          · subst e
            have hk' : updH s.h k _ k = some lb := hk
            rw [updH_same] at hk'; injection hk' with hk'; subst hk'
            refine ⟨bi, q1, ⟨q2, hall, fun _ => hrz _ hall, fun hp => ?_⟩, q4⟩
            obtain ⟨cs, ty, g1, g2, g3, g4⟩ := q6 hp
            refine ⟨cs, ty, g1, g2, ?_, fun q xx hxx => ?_⟩
            · rw [hjz] at g3 ⊢; simpa using g3
            · rw [hrz _ hall] at hxx; simp at hxx
          · have hk' : updH s.h id _ k = some lb := hk
            rw [updH_ne _ _ e] at hk'
            exact hbase.blks k lb hk'
        · have g : ∀ k, ((updH s.h id (some (LB.cells j.size (rows.take off ++ ys.take n ++ rows.drop (off + n))))) k).isSome = true → (s.h k).isSome = true := by
            intro k hk
            by_cases e : k = id
            · subst e; rw [hlb]; rfl
            · rwa [updH_ne _ _ e] at hk
          exact hbase.inj k k' b1 b2 (g k h1) (g k' h2)
    · have hnp : 0 < n := Nat.pos_of_ne_zero fun e => hn0 (by rw [e]; simp)
      have hjp : 0 < j.size := Nat.pos_of_ne_zero fun e => hn0 (by rw [e]; simp)
      obtain ⟨e1, e2⟩ := hA (by omega)
      have hp : 0 < bi.csz := by
        apply Nat.pos_of_ne_zero
        intro e
        have := q5 e
        have h2 := flat_len rows q3
        rw [this] at h2
        have h2' : rows.length * j.size = 0 := by simpa using h2.symm
        rcases Nat.mul_eq_zero.1 h2' with h | h
        · omega
        · omega
      obtain ⟨cs, ty, g1, g2, g3, g4⟩ := q6 hp
      have hlt : (news.take (n * j.size)).length = n * j.size := by
        rw [List.length_take, hnl]
        exact Nat.min_eq_left (Nat.mul_le_mul_right _ hn1)
      have hfit : bi.base + off * j.size + n * j.size ≤ cs.size := by
        have h1 : (off + n) * j.size ≤ rows.length * j.size := Nat.mul_le_mul_right _ (by omega)
        rw [Nat.add_mul] at h1
        omega
      have hcl : news.length = ys.flatten.length := hncr.1
      have hone : ∀ v ∈ news.take (n * j.size), v.oneCell' = true := fun v hvm => by
        obtain ⟨q, hq⟩ := List.mem_iff_getElem?.1 (List.mem_of_mem_take hvm)
        have hql := (List.getElem?_eq_some_iff.1 hq).1
        obtain ⟨xx, hxx⟩ : ∃ xx, ys.flatten[q]? = some xx := ⟨ys.flatten[q]'(by omega), List.getElem?_eq_getElem (by omega)⟩
        have := (hncr.2 q xx hxx).1
        simpa [hql, (List.getElem?_eq_some_iff.1 hq).2] using this
      have hst := run_storeCells_at P bi.blk (bi.base + off * j.size) ty (news.take (n * j.size)) 0 cs w g1 (by rw [hlt]; omega) hone
      simp only [Nat.add_zero] at hst
      have hrun := hexec _ (fun ad had => by
        rw [e1] at had
        injection had with had
        subst had
        rw [q2]
        exact hst) (fun hnn => by rw [e1] at hnn; cases hnn)
      have hrl : (rows.take off ++ ys.take n ++ rows.drop (off + n)).length = rows.length := by
        simp only [List.length_append, List.length_take, List.length_drop]; omega
      have hwall : ∀ r ∈ rows.take off ++ ys.take n ++ rows.drop (off + n), r.length = j.size := fun r hr => by
        rcases List.mem_append.1 hr with h | h
        · rcases List.mem_append.1 h with h | h
          · exact q3 r (List.mem_of_mem_take h)
          · exact hwy r (List.mem_of_mem_take h)
        · exact q3 r (List.mem_of_mem_drop h)
      have hfit' : bi.base + off * j.size + (news.take (n * j.size)).toArray.size ≤ cs.size := by simp only [List.size_toArray, hlt]; omega
      have hwr := hR.write id bi j.size rows (rows.take off ++ ys.take n ++ rows.drop (off + n)) hlb q1 hp (cs.toList.take (bi.base + off * j.size) ++ (news.take (n * j.size)).toArray.toList ++ cs.toList.drop (bi.base + off * j.size + (news.take (n * j.size)).toArray.size)).toArray ty cs g1
        (by simp only [List.size_toArray, List.length_append, List.length_take, List.length_drop, Array.length_toList]; simp only [List.size_toArray, List.length_take] at hfit' hlt; omega) hwall (by
          rw [hrl]
          simp only [List.size_toArray, List.length_append, List.length_take, List.length_drop, Array.length_toList]; simp only [List.size_toArray, List.length_take] at hfit' hlt; omega) (fun q xx hxx => by
          rw [splice_getD _ _ _ _ hfit']
          simp only [List.size_toArray, hlt]
          have hxx' := hxx
          rw [flat_get hjp _ hwall] at hxx
          have hqd : q = (q / j.size) * j.size + q % j.size := by rw [Nat.mul_comm]; exact (Nat.div_add_mod q j.size).symm
          have hmod : q % j.size < j.size := Nat.mod_lt _ hjp
          have mulle : ∀ {x y : Nat}, x ≤ y → x * j.size ≤ y * j.size := fun h => Nat.mul_le_mul_right _ h
          rw [List.append_assoc, List.getElem?_append] at hxx
          simp only [List.length_take, Nat.min_eq_left (show off ≤ rows.length by omega)] at hxx
          have old : ∀ r, q / j.size = r → (rows[r]?).bind (fun r => r[q % j.size]?) = some xx → rows.flatten[q]? = some xx := fun r hr h => by
            rw [flat_get hjp _ q3, hr]; exact h
          by_cases h1 : q / j.size < off
          · rw [if_pos h1, List.getElem?_take, if_pos h1] at hxx
            have := mulle (show q / j.size + 1 ≤ off by omega)
            rw [Nat.add_mul, Nat.one_mul] at this
            rw [if_pos (by omega)]
            exact g4 q xx (old _ rfl hxx)
          · rw [if_neg h1, List.getElem?_append] at hxx
            simp only [List.length_take, Nat.min_eq_left hn1] at hxx
            have hge := mulle (show off ≤ q / j.size by omega)
            rw [if_neg (by omega)]
            by_cases h2 : q / j.size - off < n
            · rw [if_pos h2, List.getElem?_take, if_pos h2] at hxx
              have := mulle (show q / j.size + 1 ≤ off + n by omega)
              rw [Nat.add_mul, Nat.one_mul, Nat.add_mul] at this
              rw [if_pos (by omega)]
              have hys : ys.flatten[q - off * j.size]? = some xx := by
                rw [flat_get hjp _ hwy]
                have e3 : (q - off * j.size) / j.size = q / j.size - off := by
                  have h3 : q - off * j.size = j.size * (q / j.size - off) + q % j.size := by
                    have : j.size * (q / j.size - off) = q / j.size * j.size - off * j.size := by rw [Nat.mul_comm, Nat.sub_mul]
                    omega
                  rw [h3, Nat.mul_add_div hjp, Nat.div_eq_of_lt hmod]
                  rfl
                have e4 : (q - off * j.size) % j.size = q % j.size := by
                  have : q = off * j.size + (q - off * j.size) := by omega
                  conv => rhs; rw [this]
                  rw [Nat.mul_comm, Nat.mul_add_mod]
                rw [e3, e4]
                exact hxx
              have e5 : bi.base + q - (bi.base + off * j.size) = q - off * j.size := by omega
              rw [e5]
              have hh := hncr.2 _ xx hys
              have e6 : (news.take (n * j.size)).toArray.getD (q - off * j.size) undef = news.toArray.getD (q - off * j.size) undef := by
                simp only [Array.getD_eq_getD_getElem?, List.getElem?_toArray, List.getElem?_take]
                rw [if_pos (by omega)]
              rw [e6]
              exact hh
            · rw [if_neg h2, List.getElem?_drop] at hxx
              have := mulle (show off + n ≤ q / j.size by omega)
              rw [Nat.add_mul] at this
              rw [if_neg (by omega)]
              have e3 : off + n + (q / j.size - off - n) = q / j.size := by omega
              rw [e3] at hxx
              exact g4 q xx (old _ rfl hxx))
      exact ⟨_, _, _, hrun, .inl rfl, F, ρ, by simpa using hwr.mono_fr (fun _ h => h.1), .val _⟩

theorem op_len {o : Oper} {c : Call} {x : Operand} {t : Nat} {i : TI} {v : AV} {u : Ups} {acc : Accs} (hT : TTok P TT) (hR : Rel w0 F0 F ρ fr s a w)
    (ho : o.op = .call c) (hc : c.callee = .builtin .len) (hargs : c.args = #[x]) (htys : c.argTypes[0]? = some t) (hi : TT t = some i) (hg : (rlen i (aval s.t x)).gives v u acc) :
    Post P o a w w0 F0 fr b { s with h := updsH s.h u } v := by
  have hv := hR.aval x
  unfold rlen at hg
  split at hg
  · rename_i e sz rows tg hd hsl
    have hu := under_slice (hT t i hi) hd
    obtain ⟨rfl, rfl, rfl⟩ := hg
    rw [hsl] at hv
    generalize hve : a.eval x = ve at hv
    cases hv with
    | sl A n cp _ _ _ bl of vals hn hcp htt hw hA g0 g1 g2 g3 =>
      subst hn
      exact Post.val hR (exec_builtin (P := P) ho hc #[.slice A rows.length cp] (by simp [hargs, hve]) _ (fun _ => rfl) (by simp [Builtin.len_, htys, run_underlying hu, goInt])) (.val _)
  · rename_i e id off len hd hown
    have hu := under_slice (hT t i hi) hd
    obtain ⟨rfl, rfl, rfl⟩ := hg
    rw [hown] at hv
    generalize hve : a.eval x = ve at hv
    cases hv with
    | own A _ _ _ cp bi hr hl hA =>
      exact Post.val hR (exec_builtin (P := P) ho hc #[.slice A len cp] (by simp [hargs, hve]) _ (fun _ => rfl) (by simp [Builtin.len_, htys, run_underlying hu, goInt])) (.val _)
  · rename_i sv hd hsv
    have hu := under_str (hT t i hi) hd
    obtain ⟨rfl, rfl, rfl⟩ := hg
    rw [hsv] at hv
    have hve := hv.val_inv
    exact Post.val hR (exec_builtin (P := P) ho hc #[.string sv] (by simp [hargs, hve]) _ (fun _ => rfl) (by simp [Builtin.len_, htys, run_underlying hu, goInt])) (.val _)
  · exact hg.elim

theorem op_min {o : Oper} {c : Call} {v : AV} {u : Ups} {acc : Accs} (hR : Rel w0 F0 F ρ fr s a w) (ho : o.op = .call c) (hc : c.callee = .builtin .min) (hg : (rmin (c.args.toList.map (aval s.t))).gives v u acc) :
    Post P o a w w0 F0 fr b { s with h := updsH s.h u } v := by
  unfold rmin at hg
  split at hg
  · rename_i k m k' n hl
    cases hk : ikeq k k' with
    | false => simp [hk] at hg; exact hg.elim
    | true =>
      have e := ikeq_eq hk
      subst e
      simp only [hk, cond_true] at hg
      obtain ⟨rfl, rfl, rfl⟩ := hg
      obtain ⟨x, y, hxy, h1, h2⟩ : ∃ x y, c.args = #[x, y] ∧ aval s.t x = .val (.int k m) ∧ aval s.t y = .val (.int k n) := by
        rcases hcl : c.args with ⟨l⟩
        rw [hcl] at hl
        rcases l with _ | ⟨x, _ | ⟨y, _ | ⟨z, l⟩⟩⟩ <;> simp at hl
        exact ⟨x, y, rfl, hl.1, hl.2⟩
      have e1 : a.eval x = .int k m := by have := hR.aval x; rw [h1] at this; exact this.int_inv
      have e2 : a.eval y = .int k n := by have := hR.aval y; rw [h2] at this; exact this.int_inv
      exact Post.val hR (exec_builtin (P := P) ho hc #[.int k m, .int k n] (by simp [hxy, e1, e2]) _ (fun _ => rfl) (by simp [Builtin.min_, Builtin.min2])) (.val _)
  · exact hg.elim

theorem op_max {o : Oper} {c : Call} {v : AV} {u : Ups} {acc : Accs} (hR : Rel w0 F0 F ρ fr s a w) (ho : o.op = .call c) (hc : c.callee = .builtin .max) (hg : (rmax (c.args.toList.map (aval s.t))).gives v u acc) :
    Post P o a w w0 F0 fr b { s with h := updsH s.h u } v := by
  unfold rmax at hg
  split at hg
  · rename_i k m k' n hl
    cases hk : ikeq k k' with
    | false => simp [hk] at hg; exact hg.elim
    | true =>
      have e := ikeq_eq hk
      subst e
      simp only [hk, cond_true] at hg
      obtain ⟨rfl, rfl, rfl⟩ := hg
      obtain ⟨x, y, hxy, h1, h2⟩ : ∃ x y, c.args = #[x, y] ∧ aval s.t x = .val (.int k m) ∧ aval s.t y = .val (.int k n) := by
        rcases hcl : c.args with ⟨l⟩
        rw [hcl] at hl
        rcases l with _ | ⟨x, _ | ⟨y, _ | ⟨z, l⟩⟩⟩ <;> simp at hl
        exact ⟨x, y, rfl, hl.1, hl.2⟩
      have e1 : a.eval x = .int k m := by have := hR.aval x; rw [h1] at this; exact this.int_inv
      have e2 : a.eval y = .int k n := by have := hR.aval y; rw [h2] at this; exact this.int_inv
      exact Post.val hR (exec_builtin (P := P) ho hc #[.int k m, .int k n] (by simp [hxy, e1, e2]) _ (fun _ => rfl) (by simp [Builtin.max_, Builtin.max2])) (.val _)
  · exact hg.elim

end
end Go.AL
