/- Contracts of nat: long division, the whole walk. -/
import Derived.Test.YtabgankeaagibaaB3
set_option linter.unusedVariables false
namespace Go.Proofs.Ytabgankeaagibaa
open Go Go.AL NM

set_option maxHeartbeats 4000000 in
theorem Long_ok (a b : Nat) (hb2 : 2 ≤ (limbs b).length) (hab : b ≤ a) (hbnd : (limbs a).length < 100000000) : AC Try.prog 125 [natA a, natA b] (.pure (.tup [natA (a / b), natA (a % b)])) := by
  have hlab := limbs_len_mono hab
  have hne : limbs b ≠ [] := by intro e; rw [e] at hb2; simp at hb2
  have hLb := limbs_lim b
  obtain ⟨x, hx⟩ : ∃ x : Nat, (x : Int) = (limbs b).getLast hne := ⟨((limbs b).getLast hne).toNat, by have := hLb _ (List.getLast_mem hne); omega⟩
  have hxl := hLb _ (List.getLast_mem hne)
  have hx0 := limbs_last b hne
  rw [← hx] at hxl hx0
  have hsplit : limbs b = (limbs b).dropLast ++ [(x : Int)] := by rw [hx, List.dropLast_concat_getLast hne]
  have hxlt : x < 4294967296 := by omega
  have hxp : 0 < x := by omega
  have hbx := blen_le (n := x) (k := 32) hxlt
  have hbx0 : 0 < blen x := by unfold blen; rw [if_neg (by omega)]; omega
  obtain ⟨s, hs⟩ : ∃ s : Nat, s + blen x = 32 := ⟨32 - blen x, by omega⟩
  obtain ⟨hvl, hvb⟩ := norm_len hsplit hxp hxlt hs
  rw [List.length_dropLast] at hvl hvb
  have hLead := Lead_ok x hxlt
  rw [show (32 - (blen x : Int)) = (s : Int) by omega] at hLead
  have hS1 := Shl_ok b (s : Int) (by omega) (by omega)
  have hS2 := Shl_ok a (s : Int) (by omega) (by omega)
  rw [Int.toNat_natCast] at hS1 hS2
  obtain ⟨la, hla⟩ : ∃ la, la = (limbs a).length := ⟨_, rfl⟩
  obtain ⟨k, hk⟩ : ∃ k, (limbs b).length = k + 2 := ⟨(limbs b).length - 2, by omega⟩
  rw [hk] at hvl hvb hlab
  have ei : IntKind.i64.wrap (((irows .u32 (limbs b)).length : Int) - 1) = ((k + 1 : Nat) : Int) := by rw [irows_len, hk, IntWalk.i64_in _ (by omega)]; omega
  have hget : (limbs b)[k + 1]? = some (x : Int) := by rw [hsplit, List.getElem?_append_right (by rw [List.length_dropLast]; omega), List.length_dropLast, hk]; simp
  have e3 : IntKind.i64.wrap (((irows .u32 (limbs a)).length : Int) + 1) = ((la + 1 : Nat) : Int) := by rw [irows_len, ← hla, IntWalk.i64_in _ (by omega)]; omega
  have hvL := limbs_lim (b * 2 ^ s)
  have hvv := val_limbs (b * 2 ^ s)
  have huL := limbs_lim (a * 2 ^ s)
  have huv := val_limbs (a * 2 ^ s)
  have hs32 : s < 32 := by omega
  have hul : (limbs (a * 2 ^ s)).length ≤ la + 1 := by
    apply limbs_len_le
    have h1 := val_lt (limbs_lim a)
    rw [val_limbs, ← hla] at h1
    have h2 : 2 ^ s ≤ 4294967296 := Nat.le_trans (Nat.pow_le_pow_right (by decide) (show s ≤ 32 by omega)) (by decide)
    rw [Nat.pow_succ]
    exact Nat.lt_of_lt_of_le (Nat.mul_lt_mul_of_pos_right h1 (Nat.pow_pos (by decide))) (Nat.mul_le_mul_left _ h2)
  have hfin : ∀ q r, val q = a / b → val r = (a % b) * 2 ^ s → AV.tup [natA (val q), natA (val r / 2 ^ s)] = AV.tup [natA (a / b), natA (a % b)] := fun q r h1 h2 => by
    rw [h1, h2, Nat.mul_div_cancel _ (Nat.pow_pos (by decide))]
  have hvT : 2 ^ (32 * (k + 1) + 31) ≤ b * 2 ^ s := hvb
  have hlen0 : a * 2 ^ s < (b * 2 ^ s) * 4294967296 ^ (la - (k + 2) + 1) := by
    have h1 := val_lt (limbs_lim a)
    rw [val_limbs, ← hla] at h1
    have h2 : 4294967296 ^ (k + 1) ≤ b := by
      rcases Nat.lt_or_ge b (4294967296 ^ (k + 1)) with h | h
      · have := limbs_len_le h; omega
      · exact h
    have h3 : a < b * 4294967296 ^ (la - (k + 2) + 1) := by
      have h4 := Nat.mul_le_mul_right (4294967296 ^ (la - (k + 2) + 1)) h2
      rw [← Nat.pow_add, show k + 1 + (la - (k + 2) + 1) = la by omega] at h4
      omega
    have h5 := Nat.mul_lt_mul_of_pos_right h3 (Nat.pow_pos (n := s) (show 0 < 2 by decide))
    rw [Nat.mul_assoc, Nat.mul_comm (4294967296 ^ _), ← Nat.mul_assoc] at h5
    exact h5
  revert hS1 hS2 hvl hvL hvv huL huv hul hfin
  unfold natA
  generalize limbs (b * 2 ^ s) = v
  generalize limbs (a * 2 ^ s) = u0
  generalize hres : AV.tup [AV.agg [AV.sl 1 (irows .u32 (limbs (a / b))) false], AV.agg [AV.sl 1 (irows .u32 (limbs (a % b))) false]] = res
  intro hS1 hS2 hvl hvL hvv huL huv hul hfin
  have hno : NoId res := by rw [← hres]; exact .tup _ (noid2 (natA_noid _) (natA_noid _))
  refine AC.of_body TTok Try.func125 rfl (enter_of Try.func125 (by kernel_rfl) (by kernel_rfl)) (noid2 (natA_noid a) (natA_noid b)) hno (Nat.le_of_ble_eq_true rfl) ?_
  conv => whnf
  refine ⟨[.val (.int .u32 (x : Int))], ⟨by rw [ei]; omega, by rw [ei]; exact irows_get _ _ hget⟩, ?_⟩
  conv => whnf
  refine ⟨_, hLead, ?_⟩
  conv => whnf
  refine ⟨_, hS1, ?_⟩
  conv => whnf
  refine ⟨⟨by rw [e3]; omega, by rw [e3]; omega, ?_⟩, ?_⟩
  · rw [e3]; show ((la + 1 : Nat) : Int) * 4 ≤ _; omega
  conv => whnf
  refine ⟨_, hS2, ?_⟩
  conv => whnf
  have em : IntKind.i64.wrap (((irows .u32 (limbs a)).length : Int) - ((irows .u32 (limbs b)).length : Int)) = ((la - (k + 2) : Nat) : Int) := by
    rw [irows_len, irows_len, ← hla, hk, IntWalk.i64_in _ (by omega)]; omega
  obtain ⟨m, hm⟩ : ∃ m, m = la - (k + 2) := ⟨_, rfl⟩
  rw [← hm] at em
  have em1 : IntKind.i64.wrap (IntKind.i64.wrap (((irows .u32 (limbs a)).length : Int) - ((irows .u32 (limbs b)).length : Int)) + 1) = ((m + 1 : Nat) : Int) := by
    rw [em, IntWalk.i64_in _ (by omega)]; omega
  have et : IntKind.i64.wrap (((irows .u32 v).length : Int) - 1) = ((k + 1 : Nat) : Int) := by rw [irows_len, hvl, IntWalk.i64_in _ (by omega)]; omega
  have es : IntKind.i64.wrap (((irows .u32 v).length : Int) - 2) = ((k : Nat) : Int) := by rw [irows_len, hvl, IntWalk.i64_in _ (by omega)]; omega
  have hvk1 : k + 1 < v.length := by omega
  have hvk : k < v.length := by omega
  refine ⟨Nat.le_of_eq (by rw [List.length_replicate, Nat.zero_add]), ?_⟩
  conv => whnf
  refine ⟨by kernel_rfl, ?_⟩
  conv => whnf
  refine ⟨⟨by rw [em1]; omega, by rw [em1]; omega, ?_⟩, ?_⟩
  · rw [em1]; show ((m + 1 : Nat) : Int) * 4 ≤ _; omega
  conv => whnf
  refine ⟨[.val (.int .u32 v[k + 1])], ⟨by rw [et]; omega, by rw [et]; exact irows_get _ _ (List.getElem?_eq_getElem hvk1)⟩, ?_⟩
  conv => whnf
  refine ⟨[.val (.int .u32 v[k])], ⟨by rw [es]; omega, by rw [es]; exact irows_get _ _ (List.getElem?_eq_getElem hvk)⟩, ?_⟩
  conv => whnf
  refine ⟨by kernel_rfl, ?_⟩
  conv => whnf
  have hTl := hvL v[k + 1] (List.getElem_mem _)
  have hSl := hvL v[k] (List.getElem_mem _)
  refine SW.loopS TTok (fun x : Nat × List Int × List Int => [(4, .lp 16 0), (5, .lp 24 0), (6, .val (.int .i64 s)), (7, .sl 1 (irows .u32 v) false), (8, .own 184 0 (la + 1)), (9, .val (.int .i64 (k + 2 : Nat))), (11, .own 352 0 (m + 1)), (12, .val (.int .u64 (v[k + 1].toNat : Nat))), (13, .val (.int .u64 (v[k].toNat : Nat))), (14, .val (.int .i64 ((x.1 : Int) - 1)))])
    (fun x => [(16, .cells 1 [[.sl 0 [] true]]), (24, .cells 1 [[.sl 0 [] true]]), (184, .cells 1 (irows .u32 x.2.1)), (352, .cells 1 (irows .u32 x.2.2))]) 100000 152 rfl (fun x => x.1)
    (fun x => x.1 ≤ m + 1 ∧ x.2.1.length = la + 1 ∧ Lim x.2.1 ∧ val (x.2.1.drop x.1) < val v ∧ x.2.2.length = m + 1 ∧ Lim x.2.2 ∧ val x.2.1 + val v * 4294967296 ^ x.1 * val (x.2.2.drop x.1) = val u0)
    (m + 1, u0 ++ List.replicate (la + 1 - u0.length) 0, List.replicate (m + 1) 0) [] ?_
    ⟨⟨rfl, rfl⟩, ⟨rfl, rfl⟩, ⟨rfl, rfl⟩, ⟨rfl, rfl⟩, ⟨ownE rfl ?_, rfl⟩, ⟨valI ?_, rfl⟩, ⟨ownE rfl ?_, rfl⟩, ⟨valI ?_, rfl⟩, ⟨valI ?_, rfl⟩, ⟨valI ?_, rfl⟩, trivial⟩
    ⟨⟨rfl, .inr ⟨rfl, rfl⟩⟩, ⟨rfl, .inr ⟨rfl, rfl⟩⟩, ⟨rfl, .inl ⟨celE ?_, irows_noid _ _⟩⟩, ⟨rfl, .inl ⟨celE ?_, irows_noid _ _⟩⟩, trivial⟩ rfl ?_
  · have hz : val (List.replicate (la + 1 - u0.length) 0) = 0 := val_rep _
    have hv0 : val (u0 ++ List.replicate (la + 1 - u0.length) 0) = val u0 := by rw [val_append, hz, Nat.mul_zero, Nat.add_zero]
    have hL0 : Lim (u0 ++ List.replicate (la + 1 - u0.length) 0) := fun x hx => by
      rcases List.mem_append.1 hx with hx | hx
      · exact huL x hx
      · have := List.eq_of_mem_replicate hx; omega
    have hl0 : (u0 ++ List.replicate (la + 1 - u0.length) 0).length = la + 1 := by rw [List.length_append, List.length_replicate]; omega
    refine ⟨Nat.le_refl _, hl0, hL0, ?_, List.length_replicate, Lim.rep _, ?_⟩
    · show val (List.drop (m + 1) (u0 ++ List.replicate (la + 1 - u0.length) 0)) < val v
      rw [val_drop hL0 (by rw [hl0]; omega), hv0, huv, hvv]
      apply Nat.div_lt_of_lt_mul
      rw [hm, Nat.mul_comm (4294967296 ^ _)]
      exact hlen0
    · show val (u0 ++ List.replicate (la + 1 - u0.length) 0) + val v * 4294967296 ^ (m + 1) * val (List.drop (m + 1) (List.replicate (m + 1) 0)) = val u0
      rw [List.drop_of_length_le (by rw [List.length_replicate]; exact Nat.le_refl _), hv0, show val [] = 0 from rfl, Nat.mul_zero, Nat.add_zero]
  · rw [e3]; omega
  · rw [irows_len]; omega
  · rw [em1]; omega
  · show IntKind.u64.wrap v[k + 1] = _
    rw [IntKind.wrap_u64]; omega
  · show IntKind.u64.wrap v[k] = _
    rw [IntKind.wrap_u64]; omega
  · rw [em]; show (m : Int) = ((m + 1 : Nat) : Int) - 1; omega
  · show _ = irows .u32 (u0 ++ List.replicate (la + 1 - u0.length) 0)
    have e4 : (IntKind.i64.wrap (((irows .u32 (limbs a)).length : Int) + 1)).toNat = la + 1 := by rw [e3]; omega
    rw [e4, irows_len, ← irows_append, ← irows_rep]
    have e5 : Nat.min u0.length (la + 1) = u0.length := Nat.min_eq_left hul
    rw [e5, List.take_zero, List.nil_append, List.take_of_length_le (by rw [irows_len]; exact Nat.le_refl _), Nat.zero_add, List.drop_replicate]
    rfl
  · rw [em1, Int.toNat_natCast, ← irows_rep]; rfl
  rintro ⟨c, u, q⟩ hJ
  have hc : c ≤ m + 1 := hJ.1
  have hul : u.length = la + 1 := hJ.2.1
  have huL : Lim u := hJ.2.2.1
  have hut : val (u.drop c) < val v := hJ.2.2.2.1
  have hql : q.length = m + 1 := hJ.2.2.2.2.1
  have hqL : Lim q := hJ.2.2.2.2.2.1
  have hinv : val u + val v * 4294967296 ^ c * val (q.drop c) = val u0 := hJ.2.2.2.2.2.2
  clear hJ
  refine SW.seq (SW.go TTok ?_)
  conv => whnf
  refine caseb (fun h1 => ?_) (fun h1 => ?_)
  · have h1' : (c : Int) - 1 ≥ 0 := of_decide_eq_true h1
    conv => whnf
    have hlam : la = m + k + 2 := by omega
    obtain ⟨j, rfl⟩ : ∃ j, c = j + 1 := ⟨c - 1, by omega⟩
    obtain ⟨P, w, R, huw, hPl, hwl, hwL, hPL, hRL, hR0, hWB, hsum⟩ := long_win (j := j) (k := k) huL hvL hvl (by omega) hut
    have hT0' := long_T hvL hvl (by rw [hvv]; exact hvT) hvk1
    have g2 : k + 2 < w.length := by omega
    have g1 : k + 1 < w.length := by omega
    have g0 : k < w.length := by omega
    obtain ⟨T, S, num, third, vlow, wlow, K, hT, hS, hthird, hnum, hTB, hSB, hT0, h3B, hnumT, hVeq, hvlow, hWeq, hwlow⟩ := long_num hvL hwL hvl hwl hvk1 hvk g2 g1 g0 hT0' hWB
    clear hvT hlen0
    have hX := hwL w[k + 2] (List.getElem_mem _)
    have hY := hwL w[k + 1] (List.getElem_mem _)
    have hZ := hwL w[k] (List.getElem_mem _)
    have hget : ∀ i (h : i < w.length), u[j + i]? = some w[i] := fun i h => by
      rw [huw, List.getElem?_append_right (by omega), hPl, Nat.add_sub_cancel_left, List.getElem?_append_left h, List.getElem?_eq_getElem h]
    have ejn : IntKind.i64.wrap ((((j + 1 : Nat) : Int) - 1) + ((k + 2 : Nat) : Int)) = ((j + (k + 2) : Nat) : Int) := by rw [IntWalk.i64_in _ (by omega)]; omega
    have ejn1 : IntKind.i64.wrap (IntKind.i64.wrap ((((j + 1 : Nat) : Int) - 1) + ((k + 2 : Nat) : Int)) - 1) = ((j + (k + 1) : Nat) : Int) := by rw [ejn, IntWalk.i64_in _ (by omega)]; omega
    have ejn2 : IntKind.i64.wrap (IntKind.i64.wrap ((((j + 1 : Nat) : Int) - 1) + ((k + 2 : Nat) : Int)) - 2) = ((j + k : Nat) : Int) := by rw [ejn, IntWalk.i64_in _ (by omega)]; omega
    have enum : IntKind.u64.wrap ((BitVec.ofInt IntKind.u64.bits (IntKind.u64.wrap (IntKind.u64.wrap w[k + 2] * 2 ^ (min (32 : Int).toNat IntKind.u64.bits))) ||| BitVec.ofInt IntKind.u64.bits (IntKind.u64.wrap w[k + 1])).toNat : Int) = (num : Int) := by
      rw [shl_32 hX, show IntKind.u64.wrap w[k + 1] = (w[k + 1].toNat : Int) by rw [IntKind.wrap_u64]; omega, BitVec.or_comm, or_u64 (by omega) (by omega), hnum]
      omega
    refine SW.seq (SW.block (SW.seq (SW.go TTok ?_)))
    conv => whnf
    refine ⟨⟨by rw [ejn]; omega, by rw [ejn]; omega⟩, ?_⟩
    conv => whnf
    refine ⟨[.val (.int .u32 w[k + 2])], (by rw [ejn, Nat.zero_add, Int.toNat_natCast]; exact irows_get _ _ (hget _ _)), ?_⟩
    conv => whnf
    refine ⟨by decide, ?_⟩
    conv => whnf
    refine ⟨⟨by rw [ejn1]; omega, by rw [ejn1]; omega⟩, ?_⟩
    conv => whnf
    refine ⟨[.val (.int .u32 w[k + 1])], (by rw [ejn1, Nat.zero_add, Int.toNat_natCast]; exact irows_get _ _ (hget _ _)), ?_⟩
    conv => whnf
    refine ⟨by kernel_rfl, ?_⟩
    conv => whnf
    rw [enum]
    refine SW.seq (SW.go TTok ?_)
    have hTi : ((v[k + 1].toNat : Nat) : Int) ≠ 0 := by omega
    conv => whnf
    refine ⟨hTi, ?_⟩
    conv => whnf
    refine ⟨hTi, ?_⟩
    conv => whnf
    refine ⟨by kernel_rfl, ?_⟩
    conv => whnf
    obtain ⟨gg, hgg⟩ : ∃ x, x = num / T := ⟨_, rfl⟩
    obtain ⟨rr, hrr⟩ : ∃ x, x = num % T := ⟨_, rfl⟩
    have hdm : num = gg * T + rr := by rw [hgg, hrr, Nat.mul_comm]; exact (Nat.div_add_mod num T).symm
    have hrrT : rr < T := by rw [hrr]; exact Nat.mod_lt _ hT0
    have hggn : gg ≤ num := by rw [hgg]; exact Nat.div_le_self _ _
    have hfirst := guess_first hVeq hWeq hwlow h3B hT0
    rw [← hgg] at hfirst
    have hTB2 : T * 4294967296 ≤ 4294967295 * 4294967296 := Nat.mul_le_mul_right _ (by omega)
    have eg : IntKind.u64.wrap ((num : Int).tdiv ((v[k + 1].toNat : Nat) : Int)) = (gg : Int) := by
      rw [← hT, Int.tdiv_eq_ediv_of_nonneg (Int.natCast_nonneg _), ← Int.natCast_ediv, ← hgg, IntKind.wrap_u64]
      omega
    have er : (num : Int).tmod ((v[k + 1].toNat : Nat) : Int) = (rr : Int) := by
      rw [← hT, Int.tmod_eq_emod_of_nonneg (Int.natCast_nonneg _), ← Int.natCast_emod, ← hrr]
    rw [eg, er]
    refine SW.cut (fun s3 => ∃ g : Nat, g < 4294967296 ∧ g * (T * 4294967296 + S) ≤ num * 4294967296 + third ∧ val w < (g + 1) * val v ∧ s3 = mkS [(4, .lp 16 0), (5, .lp 24 0), (6, .val (.int .i64 s)), (7, .sl 1 (irows .u32 v) false), (8, .own 184 0 (la + 1)), (9, .val (.int .i64 (k + 2 : Nat))), (11, .own 352 0 (m + 1)), (12, .val (.int .u64 T)), (13, .val (.int .u64 S)), (14, .val (.int .i64 j)), (16, .val (.int .u64 g))]
      [(16, .cells 1 [[.sl 0 [] true]]), (24, .cells 1 [[.sl 0 [] true]]), (184, .cells 1 (irows .u32 (P ++ (w ++ R)))), (352, .cells 1 (irows .u32 q))] 100000 152) (SW.block ?_) ?_
    · refine SW.loopM TTok (fun x : Nat × Nat => [(4, .lp 16 0), (5, .lp 24 0), (6, .val (.int .i64 s)), (7, .sl 1 (irows .u32 v) false), (8, .own 184 0 (la + 1)), (9, .val (.int .i64 (k + 2 : Nat))), (11, .own 352 0 (m + 1)), (12, .val (.int .u64 T)), (13, .val (.int .u64 S)), (14, .val (.int .i64 j)), (16, .val (.int .u64 x.1)), (17, .val (.int .u64 x.2))])
        (fun x => [(16, .cells 1 [[.sl 0 [] true]]), (24, .cells 1 [[.sl 0 [] true]]), (184, .cells 1 (irows .u32 (P ++ (w ++ R)))), (352, .cells 1 (irows .u32 q))]) 100000 152 rfl (fun x => x.1)
        (fun x => num = x.1 * T + x.2 ∧ x.2 < 4294967296 ∧ val w < (x.1 + 1) * val v ∧ x.1 ≤ num) (gg, rr) [] ⟨hdm, Nat.lt_trans hrrT hTB, hfirst, hggn⟩
        ⟨⟨rfl, rfl⟩, ⟨rfl, rfl⟩, ⟨rfl, rfl⟩, ⟨rfl, rfl⟩, ⟨rfl, rfl⟩, ⟨rfl, rfl⟩, ⟨rfl, rfl⟩, ⟨valI (by rw [← hT]), rfl⟩, ⟨valI (by rw [← hS]), rfl⟩, ⟨valI (by show ((j + 1 : Nat) : Int) - 1 = (j : Int); omega), rfl⟩, ⟨rfl, rfl⟩, ⟨rfl, rfl⟩, trivial⟩
        ⟨⟨rfl, .inr ⟨rfl, rfl⟩⟩, ⟨rfl, .inr ⟨rfl, rfl⟩⟩, ⟨rfl, .inl ⟨celE (by rw [← huw]), irows_noid _ _⟩⟩, ⟨rfl, .inl ⟨rfl, irows_noid _ _⟩⟩, trivial⟩ rfl ?_
      rintro ⟨g, r⟩ hJ
      have hgr : num = g * T + r := hJ.1
      have hrB : r < 4294967296 := hJ.2.1
      have hgq : val w < (g + 1) * val v := hJ.2.2.1
      have hgn : g ≤ num := hJ.2.2.2
      clear hJ
      have ejk : IntKind.i64.wrap (IntKind.i64.wrap ((j : Int) + ((k + 2 : Nat) : Int)) - 2) = ((j + k : Nat) : Int) := by rw [IntWalk.i64_in ((j : Int) + _) (by omega), IntWalk.i64_in _ (by omega)]; omega
      have hgetk : (P ++ (w ++ R))[j + k]? = some w[k] := by rw [← huw]; exact hget k g0
      have hlpr : (P ++ (w ++ R)).length = la + 1 := by rw [← huw]; exact hul
      have dec : val w < g * val v → ∃ g' : Nat, g = g' + 1 ∧ num = g' * T + (r + T) ∧ val w < (g' + 1) * val v := fun h => by
        rcases g with _ | g'
        · rw [Nat.zero_mul] at h; omega
        · exact ⟨g', rfl, by rw [hgr, Nat.add_mul]; omega, h⟩
      have fin : ∀ (g' : Nat) (s2 : St), s2.m = 152 → okT s2 (σf []) 100000 [(4, .lp 16 0), (5, .lp 24 0), (6, .val (.int .i64 s)), (7, .sl 1 (irows .u32 v) false), (8, .own 184 0 (la + 1)), (9, .val (.int .i64 (k + 2 : Nat))), (11, .own 352 0 (m + 1)), (12, .val (.int .u64 T)), (13, .val (.int .u64 S)), (14, .val (.int .i64 j)), (16, .val (.int .u64 g'))] →
          okH s2 (σf []) 100000 [(16, .cells 1 [[.sl 0 [] true]]), (24, .cells 1 [[.sl 0 [] true]]), (184, .cells 1 (irows .u32 (P ++ (w ++ R)))), (352, .cells 1 (irows .u32 q))] → g' < 4294967296 → g' * (T * 4294967296 + S) ≤ num * 4294967296 + third → val w < (g' + 1) * val v →
          ∃ s3, Wk s2 s3 ∧ s3.m = s2.m ∧ ∃ g : Nat, g < 4294967296 ∧ g * (T * 4294967296 + S) ≤ num * 4294967296 + third ∧ val w < (g + 1) * val v ∧ s3 = mkS [(4, .lp 16 0), (5, .lp 24 0), (6, .val (.int .i64 s)), (7, .sl 1 (irows .u32 v) false), (8, .own 184 0 (la + 1)), (9, .val (.int .i64 (k + 2 : Nat))), (11, .own 352 0 (m + 1)), (12, .val (.int .u64 T)), (13, .val (.int .u64 S)), (14, .val (.int .i64 j)), (16, .val (.int .u64 g))]
            [(16, .cells 1 [[.sl 0 [] true]]), (24, .cells 1 [[.sl 0 [] true]]), (184, .cells 1 (irows .u32 (P ++ (w ++ R)))), (352, .cells 1 (irows .u32 q))] 100000 152 := fun g' s2 hm2 e1 e2 a1 a2 a3 =>
        ⟨_, Wk.of (σf []) _ _ 100000 152 hm2 e1 e2 rfl, hm2.symm, g', a1, a2, a3, rfl⟩
      conv => whnf
      refine caseb (fun h2 => ?ca) (fun h2 => ?cb)
      case' cb =>
        have h2' : ¬ (g : Int) ≥ 4294967296 := of_decide_eq_false h2
        have emul := long_mul (g := g) (S := S) (by omega) hSB
        have esh := long_sh hrB
        obtain ⟨gs, hgs⟩ : ∃ x, x = g * S := ⟨_, rfl⟩
        obtain ⟨rb, hrb⟩ : ∃ x, x = r * 4294967296 := ⟨_, rfl⟩
        rw [← hgs] at emul
        rw [← hrb] at esh
        have eor := long_or (third := third) (x := w[k]) hZ hthird hrB hrb
        conv => whnf
        rw [emul]
        refine ⟨by decide, ?_⟩
        conv => whnf
        rw [esh]
        refine ⟨⟨by rw [ejk]; omega, by rw [ejk]; omega⟩, ?_⟩
        conv => whnf
        refine ⟨[.val (.int .u32 w[k])], (by rw [ejk, Nat.zero_add, Int.toNat_natCast]; exact irows_get _ _ hgetk), ?_⟩
        conv => whnf
        refine caseb (fun h3 => ?cc) (fun h3 => ?cd)
      case cd =>
        have h3' : ¬ (gs : Int) > IntKind.u64.wrap ((BitVec.ofInt IntKind.u64.bits (rb : Int) ||| BitVec.ofInt IntKind.u64.bits (IntKind.u64.wrap w[k])).toNat : Int) := of_decide_eq_false h3
        rw [eor, hgs] at h3'
        have hE := guess_pass (S := S) hgr (third := third) (by omega)
        conv => whnf
        exact fin g _ rfl ⟨⟨rfl, rfl⟩, ⟨rfl, rfl⟩, ⟨rfl, rfl⟩, ⟨rfl, rfl⟩, ⟨rfl, rfl⟩, ⟨rfl, rfl⟩, ⟨rfl, rfl⟩, ⟨rfl, rfl⟩, ⟨rfl, rfl⟩, ⟨rfl, rfl⟩, ⟨rfl, rfl⟩, trivial⟩
          ⟨⟨rfl, .inr ⟨rfl, rfl⟩⟩, ⟨rfl, .inr ⟨rfl, rfl⟩⟩, ⟨rfl, .inl ⟨rfl, irows_noid _ _⟩⟩, ⟨rfl, .inl ⟨rfl, irows_noid _ _⟩⟩, trivial⟩ (by omega) hE hgq
      case' cc =>
        have h3' : (gs : Int) > IntKind.u64.wrap ((BitVec.ofInt IntKind.u64.bits (rb : Int) ||| BitVec.ofInt IntKind.u64.bits (IntKind.u64.wrap w[k])).toNat : Int) := of_decide_eq_true h3
        rw [eor, hgs] at h3'
        have hdec := guess_dec hVeq hWeq hwlow hgr (by omega)
      case' ca =>
        have h2' : (g : Int) ≥ 4294967296 := of_decide_eq_true h2
        have hdec := guess_big (g := g) hWB (by omega)
      all_goals
        obtain ⟨g', rfl, hg1, hg2⟩ := dec hdec
        have e16 : IntKind.u64.wrap (((g' + 1 : Nat) : Int) - 1) = (g' : Int) := by rw [IntKind.wrap_u64]; omega
        have e17 : IntKind.u64.wrap ((r : Int) + (T : Int)) = ((r + T : Nat) : Int) := by rw [IntKind.wrap_u64]; omega
        conv => whnf
        refine caseb (fun h4 => ?_) (fun h4 => ?_)
        · have h4' : IntKind.u64.wrap ((r : Int) + (T : Int)) ≥ 4294967296 := of_decide_eq_true h4
          rw [e17] at h4'
          have hlt := guess_lt (un := 0) hg1 (by omega) hnumT
          have hE := guess_break (third := third) hg1 (by omega) hlt hSB
          conv => whnf
          exact fin g' _ rfl ⟨⟨rfl, rfl⟩, ⟨rfl, rfl⟩, ⟨rfl, rfl⟩, ⟨rfl, rfl⟩, ⟨rfl, rfl⟩, ⟨rfl, rfl⟩, ⟨rfl, rfl⟩, ⟨rfl, rfl⟩, ⟨rfl, rfl⟩, ⟨rfl, rfl⟩, ⟨valI e16, rfl⟩, trivial⟩
            ⟨⟨rfl, .inr ⟨rfl, rfl⟩⟩, ⟨rfl, .inr ⟨rfl, rfl⟩⟩, ⟨rfl, .inl ⟨rfl, irows_noid _ _⟩⟩, ⟨rfl, .inl ⟨rfl, irows_noid _ _⟩⟩, trivial⟩ hlt hE hg2
        · have h4' : ¬ IntKind.u64.wrap ((r : Int) + (T : Int)) ≥ 4294967296 := of_decide_eq_false h4
          rw [e17] at h4'
          conv => whnf
          exact ⟨(g', r + T), [], Nat.lt_succ_self g', ⟨hg1, by show r + T < 4294967296; omega, hg2, by show g' ≤ num; omega⟩,
            ⟨⟨rfl, rfl⟩, ⟨rfl, rfl⟩, ⟨rfl, rfl⟩, ⟨rfl, rfl⟩, ⟨rfl, rfl⟩, ⟨rfl, rfl⟩, ⟨rfl, rfl⟩, ⟨rfl, rfl⟩, ⟨rfl, rfl⟩, ⟨rfl, rfl⟩, ⟨valI e16, rfl⟩, ⟨valI e17, rfl⟩, trivial⟩,
            ⟨⟨rfl, .inr ⟨rfl, rfl⟩⟩, ⟨rfl, .inr ⟨rfl, rfl⟩⟩, ⟨rfl, .inl ⟨rfl, irows_noid _ _⟩⟩, ⟨rfl, .inl ⟨rfl, irows_noid _ _⟩⟩, trivial⟩, rfl⟩
    · rintro s3 hm3 ⟨g, hgB, hE, hgq, rfl⟩
      have hgV := guess_ok hVeq hWeq hvlow hT0 hE hgB
      have hlpr : (P ++ (w ++ R)).length = la + 1 := by rw [← huw]; exact hul
      have hjm : j ≤ m := by omega
      have hjq : j < q.length := by omega
      rw [huw] at hinv
      refine Long_step la m k s j g v P w R q T S hlam (by omega) hjm hvl hvL hPl hwl hwL hlpr hql hgB hgq hgV ?_
      clear hgV hgq hE hgB hwlow hWeq hvlow hVeq hnumT hfirst hggn hrrT hdm
      intro g' w' s2 hwl' hwL' hWe hWl hgB' hm2 okt okh
      have hinv' := l_inv (w' := w') hPl hR0 hjq hinv hWe
      have htop' := l_top hPl hR0 hWl
      have hlen' : (P ++ (w' ++ R)).length = la + 1 := by rw [← hlpr]; simp only [List.length_append, hwl, hwl']
      have hLim' : Lim (P ++ (w' ++ R)) := fun x hx => by
        rcases List.mem_append.1 hx with hx | hx
        · exact hPL x hx
        · rcases List.mem_append.1 hx with hx | hx
          · exact hwL' x hx
          · exact hRL x hx
      have hqL' : Lim (q.set j (g' : Int)) := hqL.set ⟨Int.natCast_nonneg g', by omega⟩
      have hql' : (q.set j (g' : Int)).length = m + 1 := by rw [List.length_set]; exact hql
      have ej1 : IntKind.i64.wrap ((j : Int) - 1) = (j : Int) - 1 := IntWalk.i64_in _ (by omega)
      refine SW.weak (Wk.of (σf []) _ _ 100000 152 hm2 okt okh rfl) hm2.symm ?_
      refine SW.go TTok ?_
      conv => whnf
      exact ⟨(j, P ++ (w' ++ R), q.set j (g' : Int)), [], Nat.lt_succ_self j, ⟨Nat.le_succ_of_le hjm, hlen', hLim', htop', hql', hqL', hinv'⟩,
        ⟨⟨rfl, rfl⟩, ⟨rfl, rfl⟩, ⟨rfl, rfl⟩, ⟨rfl, rfl⟩, ⟨rfl, rfl⟩, ⟨rfl, rfl⟩, ⟨rfl, rfl⟩, ⟨valI (by rw [hT]), rfl⟩, ⟨valI (by rw [hS]), rfl⟩, ⟨valI ej1, rfl⟩, trivial⟩,
        ⟨⟨rfl, .inr ⟨rfl, rfl⟩⟩, ⟨rfl, .inr ⟨rfl, rfl⟩⟩, ⟨rfl, .inl ⟨rfl, irows_noid _ _⟩⟩, ⟨rfl, .inl ⟨rfl, irows_noid _ _⟩⟩, trivial⟩, rfl⟩
  · have h1' : ¬ (c : Int) - 1 ≥ 0 := of_decide_eq_false h1
    have hc0 : c = 0 := by omega
    subst hc0
    rw [Nat.pow_zero, Nat.mul_one, List.drop_zero, huv, hvv] at hinv
    rw [List.drop_zero, hvv] at hut
    obtain ⟨hq, hr⟩ := div_scale hinv hut (Nat.pow_pos (by decide))
    have hres2 := hfin q u hq hr
    have hlu : (limbs (val u)).length ≤ la + 1 := limbs_len_le (by rw [← hul]; exact val_lt huL)
    have hTq := trim_ok q hqL (by omega)
    have hTu := trim_ok u huL (by omega)
    have hSh := Shr_ok (val u) (s : Int) (by omega) (by omega)
    rw [Int.toNat_natCast] at hSh
    have hTq : AC Try.prog 121 [.sl 1 (List.take (m + 1) (List.drop 0 (irows .u32 q))) false] (.pure (natA (val q))) := by
      rw [List.drop_zero, List.take_of_length_le (by rw [irows_len]; omega)]; exact hTq
    have hTu : AC Try.prog 121 [.sl 1 (List.take (la + 1) (List.drop 0 (irows .u32 u))) false] (.pure (natA (val u))) := by
      rw [List.drop_zero, List.take_of_length_le (by rw [irows_len]; omega)]; exact hTu
    unfold natA at hTq hTu hSh
    conv => whnf
    refine ⟨by rw [irows_len]; show 0 + (m + 1) ≤ q.length; omega, _, hTq, ?_⟩
    conv => whnf
    refine ⟨by rw [irows_len]; show 0 + (la + 1) ≤ u.length; omega, _, hTu, ?_⟩
    conv => whnf
    refine ⟨_, hSh, ?_⟩
    conv => whnf
    exact hres2

end Go.Proofs.Ytabgankeaagibaa

/- Contracts of nat: quotients and rests. -/
set_option linter.unusedVariables false
namespace Go.Proofs.Ytabgankeaagibaa
open Go Go.AL NM

theorem DivMod_long (n m : Nat) (h : m ≤ n) (h2 : 2 ≤ (limbs m).length) (hb : (limbs n).length < 100000000) : AC Try.prog 81 [natA n, natA m] (.pure (.tup [natA (n / m), natA (n % m), .val (.bool true)])) := by
  have hlm := limbs_len_mono h
  refine AC.of_body TTok Try.func81 rfl (enter_of Try.func81 (by kernel_rfl) (by kernel_rfl)) (noid2 (natA_noid n) (natA_noid m)) (.tup _ (noid3 (natA_noid _) (natA_noid _) (.val _))) (Nat.le_of_ble_eq_true rfl) ?_
  have hc := Cmp_ok n m (by omega) (by omega)
  have hL := Long_ok n m h2 h hb
  have hcn : ¬ cmpN n m < 0 := by
    unfold cmpN
    rw [if_neg (by omega)]
    split <;> decide
  revert hL hc hcn
  generalize n / m = q
  generalize n % m = r
  generalize cmpN n m = c
  intro hc hL hcn
  have e1 : (((irows .u32 (limbs m)).length : Int) == 0) = false := by rw [irows_len]; exact beq_false_of_ne (by omega)
  have e2 : (((irows .u32 (limbs m)).length : Int) == 1) = false := by rw [irows_len]; exact beq_false_of_ne (by omega)
  unfold natA at *
  conv => whnf
  refine caseb (fun h => Bool.noConfusion (e1.symm.trans h)) (fun _ => ?_)
  conv => whnf
  refine ⟨_, hc, ?_⟩
  conv => whnf
  refine caseb (fun h => absurd (of_decide_eq_true h) hcn) (fun _ => ?_)
  conv => whnf
  refine caseb (fun h => Bool.noConfusion (e2.symm.trans h)) (fun _ => ?_)
  conv => whnf
  refine ⟨_, hL, ?_⟩
  conv => whnf
  refine ⟨by kernel_rfl, ?_⟩
  conv => whnf
  exact rfl

theorem DivMod_ok (n m : Nat) (h0 : 0 < m) (hb : (limbs n).length < 100000000) (hb' : (limbs m).length < 100000000) : AC Try.prog 81 [natA n, natA m] (.pure (.tup [natA (n / m), natA (n % m), .val (.bool true)])) := by
  rcases Nat.lt_or_ge n m with h | h
  · exact DivMod_lt n m h (by omega) (by omega)
  · rcases Nat.lt_or_ge m 4294967296 with h1 | h1
    · exact DivMod_one n m h h0 h1 (by omega)
    · refine DivMod_long n m h ?_ hb
      rcases Nat.lt_or_ge (limbs m).length 2 with h2 | h2
      · have h3 := val_lt (limbs_lim m)
        rw [val_limbs] at h3
        have h4 : 4294967296 ^ (limbs m).length ≤ 4294967296 ^ 1 := Nat.pow_le_pow_right (by decide) (by omega)
        rw [Nat.pow_one] at h4
        omega
      · exact h2

end Go.Proofs.Ytabgankeaagibaa

/- Contracts of whole numbers: floors. -/
set_option linter.unusedVariables false
namespace Go.Proofs.Ytabgankeaagibaa
open Go Go.AL NM

theorem fl_eq (a b : Int) (hb : b ≠ 0) : flQ a b * b + flR a b = a := by
  obtain ⟨Q, hQ⟩ : ∃ Q, Q = a.natAbs / b.natAbs := ⟨_, rfl⟩
  obtain ⟨r, hr2⟩ : ∃ r, r = a.natAbs % b.natAbs := ⟨_, rfl⟩
  have hA : ((a.natAbs : Nat) : Int) = (b.natAbs : Int) * (Q : Int) + (r : Int) := by
    rw [hQ, hr2, ← Int.natCast_mul, ← Int.natCast_add, Nat.div_add_mod]
  have hr : r < b.natAbs := by rw [hr2]; exact Nat.mod_lt _ (by omega)
  unfold flQ flR flS
  rw [← hQ, ← hr2]
  clear hQ hr2
  by_cases na : a < 0
  · by_cases nb : b < 0
    · rw [decide_eq_true na, decide_eq_true nb, decide_eq_true (.inl rfl), if_pos rfl, if_pos rfl]
      show (Q : Int) * b + -(r : Int) = a
      have e1 : (Q : Int) * b = -((b.natAbs : Int) * (Q : Int)) := by
        rw [show b = -((b.natAbs : Nat) : Int) by omega, Int.mul_neg, Int.natAbs_neg, Int.natAbs_natCast, Int.mul_comm]
      omega
    · by_cases h0 : r = 0
      · rw [decide_eq_true na, decide_eq_false nb, decide_eq_true (.inr h0), if_pos rfl, if_pos rfl, h0]
        show -(Q : Int) * b + (0 : Int) = a
        have e1 : -(Q : Int) * b = -((b.natAbs : Int) * (Q : Int)) := by
          rw [show b = ((b.natAbs : Nat) : Int) by omega, Int.neg_mul, Int.natAbs_natCast, Int.mul_comm]
        omega
      · rw [decide_eq_true na, decide_eq_false nb, decide_eq_false (by intro h; rcases h with h | h; cases h; exact h0 h), if_neg (by decide), if_neg (by decide)]
        show -((Q + 1 : Nat) : Int) * b + ((b.natAbs - r : Nat) : Int) = a
        have e1 : -((Q + 1 : Nat) : Int) * b = -((b.natAbs : Int) * (Q : Int)) - (b.natAbs : Int) := by
          rw [show b = ((b.natAbs : Nat) : Int) by omega, Int.neg_mul, Int.natAbs_natCast, Int.mul_comm, Int.natCast_add, Int.mul_add]
          omega
        omega
  · by_cases nb : b < 0
    · by_cases h0 : r = 0
      · rw [decide_eq_false na, decide_eq_true nb, decide_eq_true (.inr h0), if_pos rfl, if_pos rfl, h0]
        show -(Q : Int) * b + (-(0 : Int)) = a
        have e1 : -(Q : Int) * b = (b.natAbs : Int) * (Q : Int) := by
          rw [show b = -((b.natAbs : Nat) : Int) by omega, Int.neg_mul_neg, Int.natAbs_neg, Int.natAbs_natCast, Int.mul_comm]
        omega
      · rw [decide_eq_false na, decide_eq_true nb, decide_eq_false (by intro h; rcases h with h | h; cases h; exact h0 h), if_neg (by decide), if_neg (by decide)]
        show -((Q + 1 : Nat) : Int) * b + -((b.natAbs - r : Nat) : Int) = a
        have e1 : -((Q + 1 : Nat) : Int) * b = (b.natAbs : Int) * (Q : Int) + (b.natAbs : Int) := by
          rw [show b = -((b.natAbs : Nat) : Int) by omega, Int.neg_mul_neg, Int.natAbs_neg, Int.natAbs_natCast, Int.mul_comm, Int.natCast_add, Int.mul_add]
          omega
        omega
    · rw [decide_eq_false na, decide_eq_false nb, decide_eq_true (.inl rfl), if_pos rfl, if_pos rfl]
      show (Q : Int) * b + (r : Int) = a
      have e1 : (Q : Int) * b = (b.natAbs : Int) * (Q : Int) := by
        rw [show b = ((b.natAbs : Nat) : Int) by omega, Int.natAbs_natCast, Int.mul_comm]
      omega
theorem fl_abs (a b : Int) (hb : b ≠ 0) : (flR a b).natAbs < b.natAbs ∧ (flR a b = 0 ∨ decide (flR a b < 0) = decide (b < 0)) ∧ (flQ a b).natAbs ≤ a.natAbs / b.natAbs + 1 := by
  have hr : a.natAbs % b.natAbs < b.natAbs := Nat.mod_lt _ (by omega)
  have key : ∀ (s : Bool) (n : Nat), sgn s n = 0 ∨ decide (sgn s n < 0) = s := fun s n => by
    rw [sgn_neg]
    by_cases h : n = 0
    · left; subst h; cases s <;> rfl
    · right; rw [decide_eq_false h]; cases s <;> rfl
  unfold flQ flR
  cases hs : flS a b with
  | true =>
    rw [if_pos rfl, if_pos rfl, sgn_abs, sgn_abs]
    exact ⟨hr, key _ _, by omega⟩
  | false =>
    have hs' : ¬ (decide (a < 0) = decide (b < 0) ∨ a.natAbs % b.natAbs = 0) := of_decide_eq_false hs
    rw [if_neg (by decide), if_neg (by decide), sgn_abs, sgn_abs]
    refine ⟨?_, key _ _, Nat.le_refl _⟩
    have : a.natAbs % b.natAbs ≠ 0 := fun h => hs' (.inr h)
    omega

end Go.Proofs.Ytabgankeaagibaa

/- Contracts of whole numbers: the reference's floors. -/
set_option linter.unusedVariables false
namespace Go.Proofs.Ytabgankeaagibaa
open Go Go.AL NM

theorem RAddS (x y : Int) (lx : (limbs x.natAbs).length ≤ 1000) (ly : (limbs y.natAbs).length ≤ 1000) : AC Try.prog 100 [WR x, WR y] (.pure (WR (x + y))) := by
  have h1 := decL_abs x.natAbs
  have h2 := decL_abs y.natAbs
  have h3 : (limbs (x.natAbs + y.natAbs)).length ≤ (limbs x.natAbs).length + (limbs y.natAbs).length + 1 := by
    have := limbs_abs_add (x.natAbs : Int) (y.natAbs : Int)
    rwa [show ((x.natAbs : Int) + (y.natAbs : Int)).natAbs = x.natAbs + y.natAbs by omega] at this
  have h4 := decL_abs (x.natAbs + y.natAbs)
  exact RAddW_ok x y (by omega) (by omega)
theorem RMulS (x y : Int) (lx : (limbs x.natAbs).length ≤ 1000) (ly : (limbs y.natAbs).length ≤ 1000) : AC Try.prog 97 [WR x, WR y] (.pure (WR (x * y))) := by
  have h1 := decL_abs x.natAbs
  have h2 := decL_abs y.natAbs
  have h3 := limbs_mul x.natAbs y.natAbs
  have h4 := decL_abs (x.natAbs * y.natAbs)
  exact RMulW_ok x y (by omega) (by omega)
theorem WR_m1 : WR (-1) = .agg [.val (.bool true), .val (.string { data := #[49] })] := by
  unfold WR
  rw [show (-1 : Int).natAbs = 1 from rfl, decS_one]
  rfl
theorem cmpZ_pos {x y : Int} : cmpZ x y > 0 ↔ y < x := by
  unfold cmpZ
  constructor
  · intro h
    split at h
    · omega
    · split at h <;> omega
  · intro h
    rw [if_neg (by omega), if_neg (by omega)]
    decide

theorem RFloor_ok (a b : Int) (hb0 : b ≠ 0) (la : (limbs a.natAbs).length ≤ 200) (lb : (limbs b.natAbs).length ≤ 200) : AC Try.prog 113 [WR a, WR b] (.pure (.tup [WR (flQ a b), WR (flR a b)])) := by
  have hfe := fl_eq a b hb0
  obtain ⟨_, _, hfq⟩ := fl_abs a b hb0
  obtain ⟨Q, hQ⟩ : ∃ Q, Q = a.natAbs / b.natAbs := ⟨_, rfl⟩
  obtain ⟨r, hr⟩ : ∃ r, r = a.natAbs % b.natAbs := ⟨_, rfl⟩
  have hAe : b.natAbs * Q + r = a.natAbs := by rw [hQ, hr]; exact Nat.div_add_mod _ _
  have hrB : r < b.natAbs := by rw [hr]; exact Nat.mod_lt _ (by omega)
  have lQ : (limbs Q).length ≤ 200 := by have := limbs_len_mono (Nat.div_le_self a.natAbs b.natAbs); rw [← hQ] at this; omega
  have l1 : (limbs 1).length = 1 := by rw [limbs_pos (by decide), show 1 / 4294967296 = 0 from rfl, limbs_zero]; rfl
  have lQ1 : (limbs (Q + 1)).length ≤ 202 := by
    have := limbs_abs_add (Q : Int) 1
    rw [show ((Q : Int) + 1).natAbs = Q + 1 by omega, Int.natAbs_natCast, show (1 : Int).natAbs = 1 from rfl] at this
    omega
  have lfq : (limbs (flQ a b).natAbs).length ≤ 202 := by
    have := limbs_len_mono hfq
    rw [← hQ] at this
    omega
  have lm := limbs_abs_mul (flQ a b) b
  have dA := decL_abs a.natAbs
  have dB := decL_abs b.natAbs
  have dQ := decL_abs Q
  have hDM := RDivMod_ok a.natAbs b.natAbs (by omega) (by omega)
  rw [← hQ, ← hr] at hDM
  have hO := ROfW_ok (!(decide (a < 0) == decide (b < 0))) Q (by omega)
  have hE1 := RMulS (flQ a b) b (by omega) (by omega)
  have hE2 := RMinus_ok (flQ a b * b) (by have := decL_abs (flQ a b * b).natAbs; omega)
  have hE3 := RAddS a (-(flQ a b * b)) (by omega) (by rw [Int.natAbs_neg]; omega)
  rw [show a + -(flQ a b * b) = flR a b by omega] at hE3
  have hfQ : flQ a b = if decide (a < 0) = decide (b < 0) ∨ r = 0 then sgn (!(decide (a < 0) == decide (b < 0))) Q else sgn true (Q + 1) := by
    unfold flQ flS
    rw [← hQ, ← hr]
    by_cases h : decide (a < 0) = decide (b < 0) ∨ r = 0
    · rw [decide_eq_true h, if_pos rfl, if_pos h]
    · rw [decide_eq_false h, if_neg (by decide), if_neg h]
  revert hE1 hE2 hE3
  generalize flQ a b * b = qb at *
  generalize -qb = mqb
  generalize flR a b = fr
  generalize flQ a b = fq at *
  intro hE1 hE2 hE3
  clear hfe lm
  have hno : NoId (.tup [WR fq, WR fr]) := .tup _ (noid2 (WR_noid _) (WR_noid _))
  by_cases hs : decide (a < 0) = decide (b < 0)
  · rw [if_pos (.inl hs)] at hfQ
    rw [← hfQ] at hO
    have hself : (!(decide (a < 0) == decide (b < 0))) = false := by rw [hs, beq_self_eq_true]; rfl
    have hq0 : decide (fq < 0) = false := by rw [hfQ, sgn_neg, hself]; rfl
    refine AC.of_body TTok Try.func113 rfl (enter_of Try.func113 (by kernel_rfl) (by kernel_rfl)) (noid2 (WR_noid a) (WR_noid b)) hno (Nat.le_of_ble_eq_true rfl) ?_
    unfold WR at *
    conv => whnf
    refine ⟨_, hDM, ?_⟩
    conv => whnf
    refine ⟨_, hO, ?_⟩
    conv => whnf
    refine caseb (fun h => Bool.noConfusion (hq0.symm.trans h)) (fun _ => ?_)
    conv => whnf
    refine caseb (fun h => Bool.noConfusion (hself.symm.trans h)) (fun _ => ?_)
    conv => whnf
    refine ⟨_, hE1, ?_⟩
    conv => whnf
    refine ⟨_, hE2, ?_⟩
    conv => whnf
    refine ⟨_, hE3, ?_⟩
    conv => whnf
    refine ⟨by kernel_rfl, ?_⟩
    conv => whnf
    exact rfl
  · have hself : (!(decide (a < 0) == decide (b < 0))) = true := by
      cases h : (decide (a < 0) == decide (b < 0)) with
      | false => rfl
      | true => exact absurd (eq_of_beq h) hs
    have hOB := ROfW_ok false b.natAbs (by omega)
    have hOA := ROfW_ok (!(decide (a < 0) == decide (b < 0))) a.natAbs (by omega)
    obtain ⟨qf, hqf⟩ : ∃ qf : Nat → Int, ∀ x, qf x = -(Q : Int) - x := ⟨_, fun x => rfl⟩
    rw [show WR (sgn (!(decide (a < 0) == decide (b < 0))) Q) = WR (qf 0) by rw [hself, hqf]; congr 1; show -(Q : Int) = _; omega] at hO
    rw [show WR (sgn (!(decide (a < 0) == decide (b < 0))) a.natAbs) = WR (-(a.natAbs : Int)) by rw [hself]; rfl] at hOA
    rw [show sgn false b.natAbs = (b.natAbs : Int) from rfl] at hOB
    have lqf : ∀ x : Nat, x ≤ 1 → (limbs (qf x).natAbs).length ≤ 202 := fun x hx => by
      have := limbs_len_mono (show (qf x).natAbs ≤ Q + 1 by rw [hqf]; omega)
      omega
    have hMul : ∀ x : Nat, x ≤ 1 → AC Try.prog 97 [WR (qf x), WR (b.natAbs : Int)] (.pure (WR (qf x * (b.natAbs : Int)))) := fun x hx => RMulS _ _ (by have := lqf x hx; omega) (by rw [Int.natAbs_natCast]; omega)
    have hCmp : ∀ x : Nat, AC Try.prog 102 [WR (qf x * (b.natAbs : Int)), WR (-(a.natAbs : Int))] (.pure (.val (.int .i64 (cmpZ (qf x * (b.natAbs : Int)) (-(a.natAbs : Int)))))) := fun x => RCmpW_ok _ _
    have hAdd := RAddS (qf 0) (-1) (by have := lqf 0 (by omega); omega) (by show (limbs 1).length ≤ 1000; omega)
    rw [WR_m1, show qf 0 + -1 = qf 1 by rw [hqf, hqf]; omega] at hAdd
    have hc0 : cmpZ (qf 0 * (b.natAbs : Int)) (-(a.natAbs : Int)) > 0 ↔ r ≠ 0 := by
      rw [cmpZ_pos, hqf, show (-(Q : Int) - ((0 : Nat) : Int)) * (b.natAbs : Int) = -((b.natAbs : Int) * (Q : Int)) by rw [show -(Q : Int) - ((0 : Nat) : Int) = -(Q : Int) by omega, Int.neg_mul, Int.mul_comm], ← Int.natCast_mul]
      omega
    have hc1 : ¬ cmpZ (qf 1 * (b.natAbs : Int)) (-(a.natAbs : Int)) > 0 := by
      rw [cmpZ_pos, hqf, show (-(Q : Int) - ((1 : Nat) : Int)) * (b.natAbs : Int) = -((b.natAbs : Int) * (Q : Int)) - (b.natAbs : Int) by rw [show -(Q : Int) - ((1 : Nat) : Int) = -((Q : Int) + 1) by omega, Int.neg_mul, Int.add_mul, Int.one_mul, Int.mul_comm]; omega, ← Int.natCast_mul]
      omega
    have hend : ∀ x : Nat, (x = 0 ∧ r = 0) ∨ (x = 1 ∧ r ≠ 0) → qf x = fq := fun x hx => by
      rw [hfQ, hqf]
      rcases hx with ⟨rfl, h0⟩ | ⟨rfl, h0⟩
      · rw [if_pos (.inr h0), hself]
        show _ = -(Q : Int)
        omega
      · rw [if_neg (by intro h; rcases h with h | h; exact hs h; exact h0 h)]
        show _ = -((Q + 1 : Nat) : Int)
        omega
    refine AC.of_body TTok Try.func113 rfl (enter_of Try.func113 (by kernel_rfl) (by kernel_rfl)) (noid2 (WR_noid a) (WR_noid b)) hno (Nat.le_of_ble_eq_true rfl) ?_
    unfold WR at *
    conv => whnf
    refine ⟨_, hDM, ?_⟩
    conv => whnf
    refine ⟨_, hO, ?_⟩
    conv => whnf
    refine caseb (fun hn => ?ca) (fun hn => ?cb)
    case' cb =>
      conv => whnf
      refine caseb (fun hn2 => ?cc) (fun h => Bool.noConfusion (hself.symm.trans h))
    all_goals
      conv => whnf
      refine SW.loopM TTok (fun x : Nat => [(2, .lp 0 0), (3, .lp 8 0), (4, .lp 16 0), (5, .lp 24 0), (8, .lp 168 0), (9, .val (.int .i64 x))])
        (fun x => [(0, .cells 2 [[.val (.bool (decide (a < 0))), .val (.string (decS a.natAbs))]]), (8, .cells 2 [[.val (.bool (decide (b < 0))), .val (.string (decS b.natAbs))]]), (16, .cells 2 [[.val (.bool false), .val (.string { data := #[] })]]), (24, .cells 2 [[.val (.bool false), .val (.string { data := #[] })]]), (168, .cells 2 [[.val (.bool (decide (qf x < 0))), .val (.string (decS (qf x).natAbs))]])]) 100000 65 rfl (fun x => 1 - x)
        (fun x => x ≤ 1 ∧ (x = 1 → r ≠ 0)) 0 [] ⟨Nat.zero_le _, fun h => by cases h⟩
        ⟨⟨rfl, rfl⟩, ⟨rfl, rfl⟩, ⟨rfl, rfl⟩, ⟨rfl, rfl⟩, ⟨rfl, rfl⟩, ⟨rfl, rfl⟩, trivial⟩
        ⟨⟨rfl, .inr ⟨rfl, rfl⟩⟩, ⟨rfl, .inr ⟨rfl, rfl⟩⟩, ⟨rfl, .inr ⟨rfl, rfl⟩⟩, ⟨rfl, .inr ⟨rfl, rfl⟩⟩, ⟨rfl, .inr ⟨rfl, rfl⟩⟩, trivial⟩ rfl ?_
      intro x hJ
      have hx : x ≤ 1 := hJ.1
      have hx1 : x = 1 → r ≠ 0 := hJ.2
      clear hJ
      have hM := hMul x hx
      have hC := hCmp x
      have hA2 := hAdd
      conv => whnf
      refine caseb (fun h2 => ?_) (fun h2 => absurd (of_decide_eq_false h2) (by omega))
      conv => whnf
      refine ⟨_, hOB, ?_⟩
      conv => whnf
      refine ⟨_, hM, ?_⟩
      conv => whnf
      refine ⟨_, hOA, ?_⟩
      conv => whnf
      refine ⟨_, hC, ?_⟩
      conv => whnf
      refine ⟨by kernel_rfl, ?_⟩
      conv => whnf
      refine caseb (fun h3 => ?_) (fun h3 => ?_)
      · have h3' := of_decide_eq_true h3
        have hx0 : x = 0 := by
          rcases Nat.lt_or_ge x 1 with h | h
          · omega
          · have : x = 1 := by omega
            subst this
            exact absurd h3' hc1
        subst hx0
        have hr0 := hc0.mp h3'
        conv => whnf
        refine ⟨_, hA2, ?_⟩
        conv => whnf
        exact ⟨1, [], (by decide), ⟨Nat.le_refl _, fun _ => hr0⟩, ⟨⟨rfl, rfl⟩, ⟨rfl, rfl⟩, ⟨rfl, rfl⟩, ⟨rfl, rfl⟩, ⟨rfl, rfl⟩, ⟨rfl, rfl⟩, trivial⟩,
          ⟨⟨rfl, .inr ⟨rfl, rfl⟩⟩, ⟨rfl, .inr ⟨rfl, rfl⟩⟩, ⟨rfl, .inr ⟨rfl, rfl⟩⟩, ⟨rfl, .inr ⟨rfl, rfl⟩⟩, ⟨rfl, .inr ⟨rfl, rfl⟩⟩, trivial⟩, rfl⟩
      · have h3' := of_decide_eq_false h3
        have hfx : qf x = fq := by
          refine hend x ?_
          rcases Nat.lt_or_ge x 1 with h | h
          · have h0 : x = 0 := by omega
            subst h0
            exact .inl ⟨rfl, Decidable.of_not_not (fun hr0 => h3' (hc0.mpr hr0))⟩
          · have : x = 1 := by omega
            exact .inr ⟨this, hx1 this⟩
        rw [hfx] at *
        conv => whnf
        refine ⟨_, hE1, ?_⟩
        conv => whnf
        refine ⟨_, hE2, ?_⟩
        conv => whnf
        refine ⟨_, hE3, ?_⟩
        conv => whnf
        refine ⟨by kernel_rfl, ?_⟩
        conv => whnf
        exact rfl

end Go.Proofs.Ytabgankeaagibaa

/- Euclid's sequence: what it keeps, and how long it can be. -/
set_option linter.unusedVariables false
namespace Go.AL.NM

def euc (n m : Nat) : Nat → Nat
  | 0 => n
  | 1 => m
  | (i + 2) => euc n m i % euc n m (i + 1)

theorem euc_ex (n m : Nat) : ∃ f : Nat → Nat, f 0 = n ∧ f 1 = m ∧ ∀ i, f (i + 2) = f i % f (i + 1) := ⟨euc n m, rfl, rfl, fun i => rfl⟩

theorem euc_le {f : Nat → Nat} (hf : ∀ i, f (i + 2) = f i % f (i + 1)) {M : Nat} (h0 : f 0 ≤ M) (h1 : f 1 ≤ M) : ∀ i, f i ≤ M ∧ f (i + 1) ≤ M := by
  intro i
  induction i with
  | zero => exact ⟨h0, h1⟩
  | succ i ih =>
    refine ⟨ih.2, ?_⟩
    rw [hf]
    exact Nat.le_trans (Nat.mod_le _ _) ih.1

theorem euc_gcd {f : Nat → Nat} (hf : ∀ i, f (i + 2) = f i % f (i + 1)) : ∀ i, Nat.gcd (f i) (f (i + 1)) = Nat.gcd (f 0) (f 1) := by
  intro i
  induction i with
  | zero => rfl
  | succ i ih => rw [hf, ← ih, Nat.gcd_comm (f (i + 1)), ← Nat.gcd_rec, Nat.gcd_comm]

theorem euc_end {f : Nat → Nat} (hf : ∀ i, f (i + 2) = f i % f (i + 1)) (i : Nat) (h : f (i + 1) = 0) : f i = Nat.gcd (f 0) (f 1) := by
  rw [← euc_gcd hf i, h, Nat.gcd_zero_right]

/-- What the sequence's place i knows of its length. -/
def eucJ (f : Nat → Nat) (i : Nat) : Prop := i = 0 ∨ (f (i + 1) ≤ f i ∧ f i * f (i + 1) * 2 ^ (i - 1) ≤ f 0 * f 1)

theorem eucJ_step {f : Nat → Nat} (hf : ∀ i, f (i + 2) = f i % f (i + 1)) {i : Nat} (hJ : eucJ f i) (hb : f (i + 1) ≠ 0) : eucJ f (i + 1) := by
  right
  have hlt : f i % f (i + 1) < f (i + 1) := Nat.mod_lt _ (Nat.pos_of_ne_zero hb)
  rw [show i + 1 + 1 = i + 2 from rfl, hf, Nat.add_sub_cancel]
  refine ⟨Nat.le_of_lt hlt, ?_⟩
  rcases hJ with h | ⟨h1, h2⟩
  · subst h
    rw [Nat.pow_zero, Nat.mul_one, Nat.mul_comm (f 0)]
    exact Nat.mul_le_mul_left _ (Nat.mod_le _ _)
  · cases i with
    | zero =>
      rw [Nat.pow_zero, Nat.mul_one, Nat.mul_comm (f 0)]
      exact Nat.mul_le_mul_left _ (Nat.mod_le _ _)
    | succ k =>
      rw [Nat.add_sub_cancel] at h2
      have e1 : 2 * (f (k + 1) % f (k + 1 + 1)) ≤ f (k + 1) := by
        have := Nat.mod_le (f (k + 1) - f (k + 1 + 1)) (f (k + 1 + 1))
        rw [← Nat.mod_eq_sub_mod h1] at this
        omega
      have e2 : f (k + 1 + 1) * (f (k + 1) % f (k + 1 + 1)) * 2 ≤ f (k + 1) * f (k + 1 + 1) := by
        rw [Nat.mul_assoc, Nat.mul_comm (f (k + 1))]
        exact Nat.mul_le_mul_left _ (by omega)
      refine Nat.le_trans ?_ h2
      rw [Nat.pow_succ, Nat.mul_comm (2 ^ k), ← Nat.mul_assoc]
      exact Nat.mul_le_mul_right _ e2

theorem eucJ_bound {f : Nat → Nat} {i B : Nat} (hJ : eucJ f i) (ha : 0 < f i) (hb : f (i + 1) ≠ 0) (hp : f 0 * f 1 < 2 ^ B) : i ≤ B := by
  rcases hJ with h | ⟨h1, h2⟩
  · omega
  · have h3 : 1 ≤ f i * f (i + 1) := Nat.mul_pos ha (Nat.pos_of_ne_zero hb)
    have h4 : 2 ^ (i - 1) ≤ f i * f (i + 1) * 2 ^ (i - 1) := Nat.le_mul_of_pos_left _ h3
    have h5 : 2 ^ (i - 1) < 2 ^ B := by omega
    have h6 := (Nat.pow_lt_pow_iff_right (by decide : 1 < 2)).1 h5
    omega

end Go.AL.NM

/- Contracts of nat: the greatest common divisor. -/
set_option linter.unusedVariables false
namespace Go.Proofs.Ytabgankeaagibaa
open Go Go.AL NM

theorem Gcd_ok (n m : Nat) (hn : (limbs n).length < 10000000) (hm : (limbs m).length < 10000000) : AC Try.prog 79 [natA n, natA m] (.pure (natA (Nat.gcd n m))) := by
  obtain ⟨f, f0, f1, hf⟩ := euc_ex n m
  have hle := euc_le hf (M := max n m) (by rw [f0]; omega) (by rw [f1]; omega)
  have hend := euc_end hf
  rw [f0, f1] at hend
  have hlen : ∀ i, (limbs (f i)).length < 10000000 := fun i => by
    rcases Nat.le_total n m with h | h
    · have := limbs_len_mono (show f i ≤ m by have := (hle i).1; omega)
      omega
    · have := limbs_len_mono (show f i ≤ n by have := (hle i).1; omega)
      omega
  have hgcd := euc_gcd hf
  rw [f0, f1] at hgcd
  have hDM : ∀ i, f (i + 1) ≠ 0 → AC Try.prog 81 [natA (f i), natA (f (i + 1))] (.pure (.tup [natA (f i / f (i + 1)), natA (f (i + 2)), .val (.bool true)])) := fun i h => by
    have h1 := hlen i
    have h2 := hlen (i + 1)
    have := DivMod_ok (f i) (f (i + 1)) (by omega) (by omega) (by omega)
    rwa [← hf] at this
  refine AC.of_body TTok Try.func79 rfl (enter_of Try.func79 (by kernel_rfl) (by kernel_rfl)) (noid2 (natA_noid n) (natA_noid m)) (natA_noid _) (Nat.le_of_ble_eq_true rfl) ?_
  rw [← f0, ← f1] at *
  unfold natA at *
  conv => whnf
  refine SW.loopM TTok (fun i : Nat => [(2, .lp 0 0), (3, .lp 8 0), (4, .lp 16 0)])
    (fun i => [(0, .cells 1 [[.sl 1 (irows .u32 (limbs (f i))) false]]), (8, .cells 1 [[.sl 1 (irows .u32 (limbs (f (i + 1)))) false]]), (16, .cells 1 [[.sl 0 [] true]])]) 24 47 rfl (fun i => f (i + 1)) (fun i => True) 0 [] trivial
    ⟨⟨rfl, rfl⟩, ⟨rfl, rfl⟩, ⟨rfl, rfl⟩, trivial⟩ ⟨⟨rfl, .inr ⟨rfl, rfl⟩⟩, ⟨rfl, .inr ⟨rfl, rfl⟩⟩, ⟨rfl, .inr ⟨rfl, rfl⟩⟩, trivial⟩ rfl ?_
  intro i _
  have hz := Zero_ok (f (i + 1))
  have hU := Uint_ok (f i)
  have hV := Uint_ok (f (i + 1))
  have hD := hDM i
  unfold natA at hz hU hV
  conv => whnf
  refine ⟨_, hz, ?_⟩
  conv => whnf
  refine caseb (fun h1 => ?_) (fun h1 => ?_)
  · have h1' : f (i + 1) ≠ 0 := fun h => by rw [decide_eq_true h] at h1; cases h1
    have hD := hD h1'
    conv => whnf
    refine ⟨_, hU, ?_⟩
    conv => whnf
    refine ⟨_, hV, ?_⟩
    conv => whnf
    refine caseb (fun h2 => ?ca) (fun h2 => ?cb)
    case' ca =>
      have h2' : f i < 18446744073709551616 := of_decide_eq_true h2
      conv => whnf
      refine caseb (fun h3 => ?cc) (fun h3 => ?cd)
      case' cc =>
        have h3' : f (i + 1) < 18446744073709551616 := of_decide_eq_true h3
        conv => whnf
        refine SW.loopM TTok (fun j : Nat => [(2, .lp 0 0), (3, .lp 8 0), (4, .lp 16 0), (5, .val (.int .u64 (f (i + j) : Nat))), (7, .val (.int .u64 (f (i + j + 1) : Nat)))])
          (fun j => [(0, .cells 1 [[.sl 1 (irows .u32 (limbs (f i))) false]]), (8, .cells 1 [[.sl 1 (irows .u32 (limbs (f (i + 1)))) false]]), (16, .cells 1 [[.sl 0 [] true]])]) 192 47 rfl (fun j => f (i + j + 1)) (fun j => f (i + j) < 18446744073709551616 ∧ f (i + j + 1) < 18446744073709551616) 0 [] ⟨h2', h3'⟩
          ⟨⟨rfl, rfl⟩, ⟨rfl, rfl⟩, ⟨rfl, rfl⟩, ⟨valI (if_pos h2'), rfl⟩, ⟨valI (if_pos h3'), rfl⟩, trivial⟩ ⟨⟨rfl, .inr ⟨rfl, rfl⟩⟩, ⟨rfl, .inr ⟨rfl, rfl⟩⟩, ⟨rfl, .inr ⟨rfl, rfl⟩⟩, trivial⟩ rfl ?_
        intro j hJ
        have hj1 : f (i + j) < 18446744073709551616 := hJ.1
        have hj2 : f (i + j + 1) < 18446744073709551616 := hJ.2
        clear hJ
        have hO := Of_ok (f (i + j)) hj1
        unfold natA at hO
        have hst := hf (i + j)
        have hen := hend (i + j)
        conv => whnf
        refine caseb (fun h4 => ?_) (fun h4 => ?_)
        · conv => whnf
          have h4' : f (i + j + 1) ≠ 0 := fun h => by rw [h] at h4; exact Bool.noConfusion h4
          refine ⟨by omega, ?_⟩
          conv => whnf
          refine ⟨by kernel_rfl, ?_⟩
          conv => whnf
          have hlt : f (i + j + 2) < f (i + j + 1) := by rw [hst]; exact Nat.mod_lt _ (by omega)
          refine ⟨j + 1, [], hlt, ⟨hj2, Nat.lt_trans hlt hj2⟩, ⟨⟨rfl, rfl⟩, ⟨rfl, rfl⟩, ⟨rfl, rfl⟩, ⟨rfl, rfl⟩, ⟨valI ?_, rfl⟩, trivial⟩, ⟨⟨rfl, .inr ⟨rfl, rfl⟩⟩, ⟨rfl, .inr ⟨rfl, rfl⟩⟩, ⟨rfl, .inr ⟨rfl, rfl⟩⟩, trivial⟩, rfl⟩
          show ((f (i + j) : Nat) : Int).tmod ((f (i + j + 1) : Nat) : Int) = ((f (i + j + 2) : Nat) : Int)
          rw [hst, Int.tmod_eq_emod_of_nonneg (Int.natCast_nonneg _)]
          rfl
        · conv => whnf
          have h4' : f (i + j + 1) = 0 := by
            have h4' : (((f (i + j + 1) : Nat) : Int) != 0) = false := h4
            have := bne_eq_false_iff_eq.1 h4'
            omega
          have he := hen h4'
          refine ⟨_, hO, ?_⟩
          conv => whnf
          rw [he]; exact rfl
    all_goals
      conv => whnf
      refine ⟨_, hD, ?_⟩
      conv => whnf
      refine ⟨by kernel_rfl, ?_⟩
      conv => whnf
      have hlt : f (i + 2) < f (i + 1) := by rw [hf]; exact Nat.mod_lt _ (by omega)
      exact ⟨i + 1, [], hlt, trivial, ⟨⟨rfl, rfl⟩, ⟨rfl, rfl⟩, ⟨rfl, rfl⟩, trivial⟩, ⟨⟨rfl, .inr ⟨rfl, rfl⟩⟩, ⟨rfl, .inr ⟨rfl, rfl⟩⟩, ⟨rfl, .inr ⟨rfl, rfl⟩⟩, trivial⟩, rfl⟩
  · have h1' : f (i + 1) = 0 := Decidable.of_not_not (fun h => by rw [decide_eq_false h] at h1; cases h1)
    have he := hend i h1'
    conv => whnf
    rw [← he]
    exact rfl

end Go.Proofs.Ytabgankeaagibaa

/- Contracts of the reference: the greatest common divisor. -/
set_option linter.unusedVariables false
namespace Go.Proofs.Ytabgankeaagibaa
open Go Go.AL NM

set_option maxRecDepth 100000 in
theorem RGcd_ok (n m : Nat) (hn : (limbs n).length ≤ 1000) (hm : (limbs m).length ≤ 1000) (B : Nat) (hB : B ≤ 19900) (hp : n * m < 2 ^ B) : AC Try.prog 84 [.val (.string (decS n)), .val (.string (decS m))] (.pure (.val (.string (decS (Nat.gcd n m))))) := by
  obtain ⟨f, f0, f1, hf⟩ := euc_ex n m
  have hle := euc_le hf (M := max n m) (by rw [f0]; omega) (by rw [f1]; omega)
  have hend := euc_end hf
  rw [f0, f1] at hend
  have hlen : ∀ i, (decL (f i)).length ≤ 10001 := fun i => by
    have h0 := decL_limbs (f i)
    rcases Nat.le_total n m with h | h
    · have := limbs_len_mono (show f i ≤ m by have := (hle i).1; omega)
      omega
    · have := limbs_len_mono (show f i ≤ n by have := (hle i).1; omega)
      omega
  have hDM : ∀ i, f (i + 1) ≠ 0 → AC Try.prog 85 [.val (.string (decS (f i))), .val (.string (decS (f (i + 1))))] (.pure (.tup [.val (.string (decS (f i / f (i + 1)))), .val (.string (decS (f (i + 2))))])) := fun i h => by
    have h1 := hlen i
    have h2 := hlen (i + 1)
    have := RDivMod_ok (f i) (f (i + 1)) (by omega) (by omega)
    rwa [← hf] at this
  have hb : ∀ i, eucJ f i → f (i + 1) ≠ 0 → i ≤ 19900 := fun i hJ h => by
    by_cases ha : f i = 0
    · rcases hJ with h' | h'
      · omega
      · omega
    · exact Nat.le_trans (eucJ_bound hJ (by omega) h (by rw [f0, f1]; exact hp)) hB
  have hs : ∀ i, eucJ f i → f (i + 1) ≠ 0 → eucJ f (i + 1) := fun i => eucJ_step hf
  clear hp hle hlen hn hm
  refine AC.of_body TTok Try.func84 rfl (enter_of Try.func84 (by kernel_rfl) (by kernel_rfl)) (noid2 (.val _) (.val _)) (.val _) (Nat.le_of_ble_eq_true rfl) ?_
  rw [← f0, ← f1] at *
  conv => whnf
  refine SW.loopM TTok (fun i : Nat => [(0, .val (.string (decS (f i)))), (1, .val (.string (decS (f (i + 1))))), (5, .val (.int .i64 i))])
    (fun i => []) 16 25 rfl (fun i => f (i + 1)) (eucJ f) 0 [] (.inl rfl)
    ⟨⟨rfl, rfl⟩, ⟨rfl, rfl⟩, ⟨rfl, rfl⟩, trivial⟩ trivial rfl ?_
  intro i hJ
  have h0 := is0 (f (i + 1))
  have hD := hDM i
  have hst := hs i hJ
  have hbi := hb i hJ
  have hen := hend i
  have hfi := hf i
  conv => whnf
  refine caseb (fun h1 => ?_) (fun h1 => ?_)
  · have h1' : (i : Int) < 20000 := of_decide_eq_true h1
    conv => whnf
    refine caseb (fun h2 => ?_) (fun h2 => ?_)
    · have h2' : f (i + 1) ≠ 0 := fun h => by
        rw [decide_eq_true h] at h0
        rw [h0] at h2
        exact Bool.noConfusion h2
      conv => whnf
      refine ⟨_, hD h2', ?_⟩
      conv => whnf
      have hlt : f (i + 2) < f (i + 1) := by rw [hfi]; exact Nat.mod_lt _ (by omega)
      refine ⟨i + 1, [], hlt, hst h2', ⟨⟨rfl, rfl⟩, ⟨rfl, rfl⟩, ⟨valI ?_, rfl⟩, trivial⟩, trivial, rfl⟩
      show IntKind.i64.wrap ((i : Int) + 1) = ((i + 1 : Nat) : Int)
      rw [IntWalk.i64_in _ (by omega)]; omega
    · have h2' : f (i + 1) = 0 := Decidable.of_not_not (fun h => by
        rw [decide_eq_false h] at h0
        rw [h0] at h2
        exact Bool.noConfusion h2)
      have he := hen h2'
      conv => whnf
      rw [he]
      exact rfl
  · have h1' : ¬ (i : Int) < 20000 := of_decide_eq_false h1
    have h2' : f (i + 1) = 0 := Decidable.of_not_not (fun h => by have := hbi h; omega)
    have he := hen h2'
    conv => whnf
    rw [he]
    exact rfl

theorem RGcd2 (n m : Nat) (h : (limbs n).length + (limbs m).length ≤ 600) : AC Try.prog 84 [.val (.string (decS n)), .val (.string (decS m))] (.pure (.val (.string (decS (Nat.gcd n m))))) := by
  have h1 := val_lt (limbs_lim n)
  have h2 := val_lt (limbs_lim m)
  rw [val_limbs, pow32] at h1 h2
  refine RGcd_ok n m (by omega) (by omega) (32 * (limbs n).length + 32 * (limbs m).length) (by omega) ?_
  rw [Nat.pow_add]
  exact Nat.lt_of_le_of_lt (Nat.mul_le_mul_left n (Nat.le_of_lt h2)) (Nat.mul_lt_mul_of_pos_right h1 (Nat.two_pow_pos _))

end Go.Proofs.Ytabgankeaagibaa

/- Ratios: plain facts on the numbers that the program and the document's answer reckon with. -/
set_option linter.unusedVariables false
namespace Go.Proofs.Ytabgankeaagibaa
open Go Go.AL NM

theorem sgn_num (x y : Int) (hy : y ≠ 0) : (Rat.divInt x y).num = sgn (!(decide (x < 0) == decide (y < 0))) (x.natAbs / Nat.gcd x.natAbs y.natAbs) := by
  rw [Rat.num_divInt]
  have hg : Int.gcd y x = Nat.gcd x.natAbs y.natAbs := by rw [Nat.gcd_comm]; rfl
  rw [hg]
  have hd : Nat.gcd x.natAbs y.natAbs ∣ x.natAbs := Nat.gcd_dvd_left _ _
  revert hd
  generalize Nat.gcd x.natAbs y.natAbs = g
  intro hd
  obtain ⟨k, hk⟩ := hd
  rcases Nat.eq_zero_or_pos g with h0 | h0
  · subst h0
    simp [sgn]
  rw [hk, Nat.mul_div_cancel_left _ h0]
  have e1 : ∀ z : Int, ((g : Int) * z) / (g : Int) = z := fun z => Int.mul_ediv_cancel_left _ (by omega)
  have key : ∀ s : Bool, (y.sign * x) = (g : Int) * sgn s k → (y.sign * x) / (g : Int) = sgn s k := fun s h => by rw [h, e1]
  refine key _ ?_
  have hm : ((g * k : Nat) : Int) = (g : Int) * (k : Int) := Int.natCast_mul _ _
  rcases Int.lt_trichotomy y 0 with h | h | h
  · rw [Int.sign_eq_neg_one_of_neg h, decide_eq_true h]
    by_cases hx : x < 0
    · rw [decide_eq_true hx]
      show -1 * x = (g : Int) * (k : Int)
      omega
    · rw [decide_eq_false hx]
      show -1 * x = (g : Int) * -(k : Int)
      rw [Int.mul_neg]
      omega
  · exact absurd h hy
  · rw [Int.sign_eq_one_of_pos h, decide_eq_false (by omega : ¬ y < 0)]
    by_cases hx : x < 0
    · rw [decide_eq_true hx]
      show 1 * x = (g : Int) * -(k : Int)
      rw [Int.mul_neg]
      omega
    · rw [decide_eq_false hx]
      show 1 * x = (g : Int) * (k : Int)
      omega
theorem sgn_den (x y : Int) (hy : y ≠ 0) : (Rat.divInt x y).den = y.natAbs / Nat.gcd x.natAbs y.natAbs := by
  rw [Rat.den_divInt, if_neg hy]
  have hg : Int.gcd y x = Nat.gcd x.natAbs y.natAbs := by rw [Nat.gcd_comm]; rfl
  rw [hg]

theorem q_add (a b : Rat) : Rat.divInt (a.num * (b.den : Int) + b.num * (a.den : Int)) ((a.den : Int) * (b.den : Int)) = a + b := by
  rw [Rat.add_def', ← Int.natCast_mul, Rat.divInt_ofNat]
theorem q_mul (a b : Rat) : Rat.divInt (a.num * b.num) ((a.den : Int) * (b.den : Int)) = a * b := by
  rw [Rat.mul_def', ← Int.natCast_mul, Rat.divInt_ofNat]
theorem q_div (a b : Rat) : Rat.divInt (a.num * (b.den : Int)) ((a.den : Int) * b.num) = a / b := by
  rw [Rat.div_def, Rat.inv_def, ← Rat.divInt_mul_divInt, Rat.num_divInt_den]
theorem q_int (n : Int) : Rat.divInt n 1 = (n : Rat) := by
  rw [show (1 : Int) = ((1 : Nat) : Int) from rfl, Rat.divInt_ofNat]
  have := Rat.mkRat_self (n : Rat)
  simpa using this
theorem num_ne {a : Rat} (h : a ≠ 0) : a.num ≠ 0 := fun e => h (Rat.num_eq_zero.1 e)

/-- The order of two numbers. -/
def cmpQ (a b : Rat) : Int := if a < b then -1 else if a = b then 0 else 1
theorem cmpZ_Q (a b : Rat) : cmpZ (a.num * (b.den : Int)) (b.num * (a.den : Int)) = cmpQ a b := by
  unfold cmpZ cmpQ
  by_cases h : a < b
  · rw [if_pos h, if_pos ((Rat.lt_iff a b).1 h)]
  · rw [if_neg h, if_neg (fun e => h ((Rat.lt_iff a b).2 e))]
    by_cases he : a = b
    · rw [if_pos he, if_pos (Rat.eq_iff_mul_eq_mul.1 he)]
    · rw [if_neg he, if_neg (fun e => he (Rat.eq_iff_mul_eq_mul.2 e))]
theorem cmpQ_self (a : Rat) : cmpQ a a = 0 := by
  unfold cmpQ
  rw [if_neg Rat.lt_irrefl, if_pos rfl]
theorem cmpQ_eq {a b : Rat} : cmpQ a b = 0 ↔ a = b := by
  unfold cmpQ
  constructor
  · intro h
    split at h
    · cases h
    · split at h
      · assumption
      · cases h
  · rintro rfl
    rw [if_neg Rat.lt_irrefl, if_pos rfl]
theorem cmpQ_neg {a b : Rat} : cmpQ a b < 0 ↔ a < b := by
  unfold cmpQ
  constructor
  · intro h
    split at h
    · assumption
    · split at h <;> omega
  · intro h
    rw [if_pos h]; decide
theorem cmpQ_swap (a b : Rat) : cmpQ b a = -cmpQ a b := by
  unfold cmpQ
  by_cases h : a < b
  · rw [if_pos h, if_neg (fun h' => Rat.not_le.2 h' (Rat.le_of_lt h)), if_neg (fun e => by rw [e] at h; exact Rat.lt_irrefl h)]; rfl
  · rw [if_neg h]
    by_cases he : a = b
    · rw [if_pos he, if_pos he.symm, if_neg (by rw [he]; exact Rat.lt_irrefl)]; rfl
    · rw [if_neg he, if_pos (Rat.lt_of_le_of_ne (Rat.not_lt.1 h) (Ne.symm he))]

theorem flQ_ediv (a : Int) (b : Nat) (hb : b ≠ 0) : flQ a (b : Int) = a / (b : Int) := by
  have h1 := fl_eq a (b : Int) (by omega)
  obtain ⟨h2, h3, _⟩ := fl_abs a (b : Int) (by omega)
  have hn : ¬ (b : Int) < 0 := by omega
  have h4 : 0 ≤ flR a (b : Int) := by
    rcases h3 with h3 | h3
    · omega
    · rw [decide_eq_false hn] at h3
      have := of_decide_eq_false h3
      omega
  have h5 : flR a (b : Int) < (b : Int) := by omega
  generalize flQ a (b : Int) = q at *
  generalize flR a (b : Int) = r at *
  have := Int.ediv_emod_unique (a := a) (b := (b : Int)) (r := r) (q := q) (by omega)
  exact (this.2 ⟨by rw [Int.mul_comm]; omega, h4, h5⟩).1.symm
theorem flQ_floor (a : Rat) : flQ a.num (a.den : Int) = a.floor := by
  rw [Rat.floor_def, flQ_ediv _ _ a.den_nz]

/-- How many limbs a number has, above and below the line. -/
def Sz (q : Rat) (k : Nat) : Prop := (limbs q.num.natAbs).length ≤ k ∧ (limbs q.den).length ≤ k
theorem Sz.mono {q : Rat} {i j : Nat} (h : Sz q i) (hij : i ≤ j) : Sz q j := ⟨Nat.le_trans h.1 hij, Nat.le_trans h.2 hij⟩
theorem Sz_divInt {x y : Int} {k : Nat} (hy : y ≠ 0) (hx : (limbs x.natAbs).length ≤ k) (hk : (limbs y.natAbs).length ≤ k) : Sz (Rat.divInt x y) k := by
  refine ⟨?_, ?_⟩
  · rw [sgn_num x y hy, sgn_abs]
    exact Nat.le_trans (limbs_len_mono (Nat.div_le_self _ _)) hx
  · rw [sgn_den x y hy]
    exact Nat.le_trans (limbs_len_mono (Nat.div_le_self _ _)) hk
theorem limbs_den_mul (a b : Rat) : (limbs ((a.den : Int) * (b.den : Int)).natAbs).length ≤ (limbs a.den).length + (limbs b.den).length := by
  have := limbs_abs_mul (a.den : Int) (b.den : Int)
  rwa [Int.natAbs_natCast, Int.natAbs_natCast] at this
theorem limbs_num_den (a b : Rat) : (limbs (a.num * (b.den : Int)).natAbs).length ≤ (limbs a.num.natAbs).length + (limbs b.den).length := by
  have := limbs_abs_mul a.num (b.den : Int)
  rwa [Int.natAbs_natCast] at this
theorem den_mul_ne (a b : Rat) : (a.den : Int) * (b.den : Int) ≠ 0 := by
  have := a.den_nz
  have := b.den_nz
  exact Int.mul_ne_zero (by omega) (by omega)
theorem Sz_add {a b : Rat} {i j : Nat} (ha : Sz a i) (hb : Sz b j) : Sz (a + b) (2 * (i + j) + 1) := by
  rw [← q_add]
  have h1 := limbs_abs_add (a.num * (b.den : Int)) (b.num * (a.den : Int))
  have h2 := limbs_num_den a b
  have h3 := limbs_num_den b a
  have h4 := limbs_den_mul a b
  have := ha.1; have := ha.2; have := hb.1; have := hb.2
  exact Sz_divInt (den_mul_ne a b) (by omega) (by omega)
theorem Sz_mul {a b : Rat} {i j : Nat} (ha : Sz a i) (hb : Sz b j) : Sz (a * b) (i + j) := by
  rw [← q_mul]
  have h2 := limbs_abs_mul a.num b.num
  have h4 := limbs_den_mul a b
  have := ha.1; have := ha.2; have := hb.1; have := hb.2
  exact Sz_divInt (den_mul_ne a b) (by omega) (by omega)
theorem Sz_div {a b : Rat} {i j : Nat} (h0 : b ≠ 0) (ha : Sz a i) (hb : Sz b j) : Sz (a / b) (i + j) := by
  rw [← q_div]
  have h2 := limbs_num_den a b
  have h4 := limbs_num_den b a
  rw [Int.mul_comm] at h4
  have := ha.1; have := ha.2; have := hb.1; have := hb.2
  have := a.den_nz
  exact Sz_divInt (Int.mul_ne_zero (by omega) (num_ne h0)) (by omega) (by omega)
theorem Sz_neg {a : Rat} {i : Nat} (ha : Sz a i) : Sz (-a) i := ⟨by rw [Rat.neg_num, Int.natAbs_neg]; exact ha.1, ha.2⟩
theorem Sz_int {n : Int} {k : Nat} (h1 : 1 ≤ k) (h : (limbs n.natAbs).length ≤ k) : Sz (n : Rat) k := ⟨by rw [Rat.num_intCast]; exact h, by rw [Rat.den_intCast, limbs_1]; exact h1⟩
theorem limbs_floor {a : Rat} {k : Nat} (h : Sz a k) : (limbs a.floor.natAbs).length ≤ k + 2 := by
  rw [← flQ_floor]
  obtain ⟨_, _, h3⟩ := fl_abs a.num (a.den : Int) (by have := a.den_nz; omega)
  have h4 := limbs_len_mono h3
  have h5 := limbs_len_mono (Nat.div_le_self a.num.natAbs (a.den : Int).natAbs)
  have h6 := limbs_abs_add ((a.num.natAbs / (a.den : Int).natAbs : Nat) : Int) 1
  rw [show (((a.num.natAbs / (a.den : Int).natAbs : Nat) : Int) + 1).natAbs = a.num.natAbs / (a.den : Int).natAbs + 1 by omega, Int.natAbs_natCast, Int.natAbs_natCast, show (1 : Int).natAbs = 1 from rfl] at h6
  have h7 := h.1
  have h8 := limbs_1
  rw [Int.natAbs_natCast] at h4 h5
  omega

end Go.Proofs.Ytabgankeaagibaa

/- Contracts of ratios: small functions, and how a number is made. -/
set_option linter.unusedVariables false
namespace Go.Proofs.Ytabgankeaagibaa
open Go Go.AL NM

/-- A ratio: as the program has it, as the document's answer has it. -/
def RA (t : Int) (d : Nat) : AV := .agg [.sl 1 (irows .u32 (limbs t.natAbs)) false, .val (.bool (decide (t < 0))), .sl 1 (irows .u32 (limbs d)) false]
def RN (t : Int) (d : Nat) : AV := .agg [.val (.bool (decide (t < 0))), .val (.string (decS t.natAbs)), .val (.string (decS d))]
theorem RA_noid (t : Int) (d : Nat) : NoId (RA t d) := .agg _ (noid3 (noid_sl _ _ _) (.val _) (noid_sl _ _ _))
theorem RN_noid (t : Int) (d : Nat) : NoId (RN t d) := .agg _ (noid3 (.val _) (.val _) (.val _))
/-- What stands below the line: 1 if there is nothing. -/
def dn (d : Nat) : Nat := if d = 0 then 1 else d
theorem dn_pos (d : Nat) : dn d ≠ 0 := by unfold dn; split <;> omega
theorem dn_self {d : Nat} (h : d ≠ 0) : dn d = d := if_neg h
theorem dn_den (q : Rat) : dn q.den = q.den := if_neg q.den_nz
theorem agg3 {a b c d e f : AV} (h1 : a = d) (h2 : b = e) (h3 : c = f) : AV.agg [a, b, c] = AV.agg [d, e, f] := by rw [h1, h2, h3]

theorem down_ok (t : Int) (d : Nat) : AC Try.prog 87 [RA t d] (.pure (natA (dn d))) := by
  refine AC.of_body TTok Try.func87 rfl (enter_of Try.func87 (by kernel_rfl) (by kernel_rfl)) (noid1 (RA_noid t d)) (natA_noid _) (Nat.le_of_ble_eq_true rfl) ?_
  have hz := Zero_ok d
  have h1 := Of_ok 1 (by decide)
  unfold dn
  by_cases h : d = 0
  · rw [decide_eq_true h] at hz
    rw [if_pos h]
    unfold RA natA at *
    repeat
      conv => whnf
      first
        | refine ⟨_, by assumption, ?_⟩
        | refine ⟨(Nat.le_of_ble_eq_true rfl), _, by assumption, ?_⟩
        | refine ⟨by kernel_rfl, ?_⟩
        | exact rfl
  · rw [decide_eq_false h] at hz
    rw [if_neg h]
    unfold RA natA at *
    repeat
      conv => whnf
      first
        | refine ⟨_, by assumption, ?_⟩
        | refine ⟨(Nat.le_of_ble_eq_true rfl), _, by assumption, ?_⟩
        | refine ⟨by kernel_rfl, ?_⟩
        | exact rfl
theorem under_ok (t : Int) (d : Nat) : AC Try.prog 96 [RA t d] (.pure (WI (dn d : Int))) := by
  refine AC.of_body TTok Try.func96 rfl (enter_of Try.func96 (by kernel_rfl) (by kernel_rfl)) (noid1 (RA_noid t d)) (WI_noid _) (Nat.le_of_ble_eq_true rfl) ?_
  have hD := down_ok t d
  have hO := WOf_ok false (dn d)
  rw [show sgn false (dn d) = (dn d : Int) from rfl] at hO
  unfold RA WI natA at *
  repeat
    conv => whnf
    first
      | refine ⟨_, by assumption, ?_⟩
      | refine ⟨(Nat.le_of_ble_eq_true rfl), _, by assumption, ?_⟩
      | refine ⟨by kernel_rfl, ?_⟩
      | exact rfl
theorem New_ok (x y : Int) (hy : y ≠ 0) (lx : (limbs x.natAbs).length ≤ 100000) (ly : (limbs y.natAbs).length ≤ 100000) :
    AC Try.prog 17 [WI x, WI y] (.pure (.tup [RA (Rat.divInt x y).num (Rat.divInt x y).den, .val (.bool true)])) := by
  refine AC.of_body TTok Try.func17 rfl (enter_of Try.func17 (by kernel_rfl) (by kernel_rfl)) (noid2 (WI_noid x) (WI_noid y)) (.tup _ (noid2 (RA_noid _ _) (.val _))) (Nat.le_of_ble_eq_true rfl) ?_
  have hz := Zero_ok y.natAbs
  rw [decide_eq_false (show ¬ y.natAbs = 0 by omega)] at hz
  have hS := SizeW_ok y
  have hG := Gcd_ok x.natAbs y.natAbs (by omega) (by omega)
  have hg : 0 < Nat.gcd x.natAbs y.natAbs := Nat.gcd_pos_of_pos_right _ (by omega)
  have lg := limbs_len_mono (Nat.gcd_le_right (n := y.natAbs) x.natAbs (by omega))
  have hD1 := DivMod_ok x.natAbs (Nat.gcd x.natAbs y.natAbs) hg (by omega) (by omega)
  have hD2 := DivMod_ok y.natAbs (Nat.gcd x.natAbs y.natAbs) hg (by omega) (by omega)
  have hN1 := NegW_ok x
  have hN2 := NegW_ok y
  have hO := WOf_ok (!(decide (x < 0) == decide (y < 0))) (x.natAbs / Nat.gcd x.natAbs y.natAbs)
  rw [← sgn_num x y hy] at hO
  rw [← sgn_den x y hy] at hD2
  clear hg lg lx ly hy
  revert hG hD1 hD2 hO
  generalize Nat.gcd x.natAbs y.natAbs = g
  generalize x.natAbs / g = a
  generalize x.natAbs % g = b
  generalize y.natAbs % g = c
  generalize (Rat.divInt x y).num = n
  generalize (Rat.divInt x y).den = d
  intro hG hD1 hD2 hO
  unfold RA WI natA at *
  repeat
    conv => whnf
    first
      | refine ⟨_, by assumption, ?_⟩
      | refine ⟨(Nat.le_of_ble_eq_true rfl), _, by assumption, ?_⟩
      | refine ⟨by kernel_rfl, ?_⟩
      | exact rfl
theorem New_zero (x : Int) : AC Try.prog 17 [WI x, WI 0] (.pure (.tup [RA 0 0, .val (.bool false)])) := by
  have e1 : AVle (.agg [.sl 0 [] true, .val (.bool false), .sl 0 [] true]) (RA 0 0) := by
    unfold RA
    rw [show (0 : Int).natAbs = 0 from rfl, limbs_zero]
    exact .agg _ _ rfl (fun i a b ha hb => by
      match i with
      | 0 => cases ha; cases hb; exact .sl _ _ _
      | 1 => cases ha; cases hb; exact .refl _
      | 2 => cases ha; cases hb; exact .sl _ _ _
      | (i + 3) => cases ha)
  have e2 : NoId (.agg [.sl 0 [] true, .val (.bool false), .sl 0 [] true]) := .agg _ (noid3 (.sl _ _ _ (fun r hr => (nomatch hr))) (.val _) (.sl _ _ _ (fun r hr => (nomatch hr))))
  refine AC.le_res (v := .tup [.agg [.sl 0 [] true, .val (.bool false), .sl 0 [] true], .val (.bool false)]) ?_ (.tup2 e1 (.refl _)) (.tup _ (noid2 (RA_noid _ _) (.val _)))
  refine AC.of_body TTok Try.func17 rfl (enter_of Try.func17 (by kernel_rfl) (by kernel_rfl)) (noid2 (WI_noid x) (WI_noid 0)) (.tup _ (noid2 e2 (.val _))) (Nat.le_of_ble_eq_true rfl) ?_
  have hz := Zero_ok (0 : Int).natAbs
  rw [decide_eq_true (show (0 : Int).natAbs = 0 from rfl)] at hz
  unfold WI natA at *
  repeat
    conv => whnf
    first
      | refine ⟨_, by assumption, ?_⟩
      | refine ⟨(Nat.le_of_ble_eq_true rfl), _, by assumption, ?_⟩
      | refine ⟨by kernel_rfl, ?_⟩
      | exact rfl
theorem RatFrom_ok (n : Int) (hn : -9223372036854775808 ≤ n ∧ n < 9223372036854775808) : AC Try.prog 50 [.val (.int .i64 n)] (.pure (RA n 1)) := by
  refine AC.of_body TTok Try.func50 rfl (enter_of Try.func50 (by kernel_rfl) (by kernel_rfl)) (noid1 (.val _)) (RA_noid _ _) (Nat.le_of_ble_eq_true rfl) ?_
  have hF := From_ok n hn
  have h1 := Of_ok 1 (by decide)
  unfold RA WI natA at *
  repeat
    conv => whnf
    first
      | refine ⟨_, by assumption, ?_⟩
      | refine ⟨(Nat.le_of_ble_eq_true rfl), _, by assumption, ?_⟩
      | refine ⟨by kernel_rfl, ?_⟩
      | exact rfl
theorem Whole_ok (n : Int) : AC Try.prog 23 [WI n] (.pure (RA n 1)) := by
  refine AC.of_body TTok Try.func23 rfl (enter_of Try.func23 (by kernel_rfl) (by kernel_rfl)) (noid1 (WI_noid n)) (RA_noid _ _) (Nat.le_of_ble_eq_true rfl) ?_
  have h1 := Of_ok 1 (by decide)
  unfold RA WI natA at *
  repeat
    conv => whnf
    first
      | refine ⟨_, by assumption, ?_⟩
      | refine ⟨(Nat.le_of_ble_eq_true rfl), _, by assumption, ?_⟩
      | refine ⟨by kernel_rfl, ?_⟩
      | exact rfl
theorem Num_ok (t : Int) (d : Nat) (lt : (limbs t.natAbs).length ≤ 100000) (ld : (limbs (dn d)).length ≤ 100000) : AC Try.prog 22 [RA t d] (.pure (RN t (dn d))) := by
  refine AC.of_body TTok Try.func22 rfl (enter_of Try.func22 (by kernel_rfl) (by kernel_rfl)) (noid1 (RA_noid t d)) (RN_noid _ _) (Nat.le_of_ble_eq_true rfl) ?_
  have hN := NegW_ok t
  have hT := Text_ok t.natAbs (by omega)
  have hD := down_ok t d
  have hT2 := Text_ok (dn d) (by omega)
  unfold RA RN WI natA at *
  repeat
    conv => whnf
    first
      | refine ⟨_, by assumption, ?_⟩
      | refine ⟨(Nat.le_of_ble_eq_true rfl), _, by assumption, ?_⟩
      | refine ⟨by kernel_rfl, ?_⟩
      | exact rfl

end Go.Proofs.Ytabgankeaagibaa

/- Contracts of ratios: what is told of one, sums, products, quotients. -/
set_option linter.unusedVariables false
namespace Go.Proofs.Ytabgankeaagibaa
open Go Go.AL NM

theorem RTop_ok (t : Int) (d : Nat) : AC Try.prog 52 [RA t d] (.pure (WI t)) := by
  refine AC.of_body TTok Try.func52 rfl (enter_of Try.func52 (by kernel_rfl) (by kernel_rfl)) (noid1 (RA_noid t d)) (WI_noid _) (Nat.le_of_ble_eq_true rfl) ?_
  unfold RA WI at *
  repeat
    conv => whnf
    first
      | refine ⟨_, by assumption, ?_⟩
      | refine ⟨(Nat.le_of_ble_eq_true rfl), _, by assumption, ?_⟩
      | refine ⟨by kernel_rfl, ?_⟩
      | exact rfl
theorem RBot_ok (t : Int) (d : Nat) : AC Try.prog 56 [RA t d] (.pure (natA (dn d))) := by
  refine AC.of_body TTok Try.func56 rfl (enter_of Try.func56 (by kernel_rfl) (by kernel_rfl)) (noid1 (RA_noid t d)) (natA_noid _) (Nat.le_of_ble_eq_true rfl) ?_
  have hD := down_ok t d
  unfold RA natA at *
  repeat
    conv => whnf
    first
      | refine ⟨_, by assumption, ?_⟩
      | refine ⟨(Nat.le_of_ble_eq_true rfl), _, by assumption, ?_⟩
      | refine ⟨by kernel_rfl, ?_⟩
      | exact rfl
theorem RaSign_ok (t : Int) (d : Nat) : AC Try.prog 44 [RA t d] (.pure (.val (.int .i64 (sigW t)))) := by
  refine AC.of_body TTok Try.func44 rfl (enter_of Try.func44 (by kernel_rfl) (by kernel_rfl)) (noid1 (RA_noid t d)) (.val _) (Nat.le_of_ble_eq_true rfl) ?_
  have hD := SignW_ok t
  revert hD
  generalize sigW t = s
  intro hD
  unfold RA WI at *
  repeat
    conv => whnf
    first
      | refine ⟨_, by assumption, ?_⟩
      | refine ⟨(Nat.le_of_ble_eq_true rfl), _, by assumption, ?_⟩
      | refine ⟨by kernel_rfl, ?_⟩
      | exact rfl
theorem IsWhole_ok (t : Int) (d : Nat) : AC Try.prog 47 [RA t d] (.pure (.val (.bool (decide (dn d = 1))))) := by
  refine AC.of_body TTok Try.func47 rfl (enter_of Try.func47 (by kernel_rfl) (by kernel_rfl)) (noid1 (RA_noid t d)) (.val _) (Nat.le_of_ble_eq_true rfl) ?_
  have hD := down_ok t d
  have h1 := One_ok (dn d)
  revert hD h1
  generalize dn d = e
  intro hD h1
  unfold RA natA at *
  repeat
    conv => whnf
    first
      | refine ⟨_, by assumption, ?_⟩
      | refine ⟨(Nat.le_of_ble_eq_true rfl), _, by assumption, ?_⟩
      | refine ⟨by kernel_rfl, ?_⟩
      | exact rfl
def qLimbs (t : Int) (d : Nat) : Nat := max (limbs t.natAbs).length (limbs d).length
theorem QLimbs_ok (t : Int) (d : Nat) : AC Try.prog 61 [RA t d] (.pure (.val (.int .i64 (qLimbs t (dn d) : Nat)))) := by
  refine AC.of_body TTok Try.func61 rfl (enter_of Try.func61 (by kernel_rfl) (by kernel_rfl)) (noid1 (RA_noid t d)) (.val _) (Nat.le_of_ble_eq_true rfl) ?_
  have hD := down_ok t d
  have h1 := Limbs_ok (dn d)
  have h2 := Limbs_ok t.natAbs
  unfold qLimbs
  revert hD h1
  generalize dn d = e
  intro hD h1
  unfold RA natA at *
  conv => whnf
  refine ⟨_, h2, ?_⟩
  conv => whnf
  refine ⟨_, hD, ?_⟩
  conv => whnf
  refine ⟨_, h1, ?_⟩
  conv => whnf
  refine ⟨by kernel_rfl, ?_⟩
  conv => whnf
  refine valI ?_
  show (if ((limbs e).length : Int) > ((limbs t.natAbs).length : Int) then ((limbs e).length : Int) else ((limbs t.natAbs).length : Int)) = _
  split <;> omega
def fitQ (t : Int) (d : Nat) : Prop := d = 1 ∧ fit t
instance (t : Int) (d : Nat) : Decidable (fitQ t d) := inferInstanceAs (Decidable (_ ∧ _))
theorem RInt_ok (t : Int) (d : Nat) : AC Try.prog 48 [RA t d] (.pure (.tup [.val (.int .i64 (if fitQ t (dn d) then t else 0)), .val (.bool (decide (fitQ t (dn d))))])) := by
  refine AC.of_body TTok Try.func48 rfl (enter_of Try.func48 (by kernel_rfl) (by kernel_rfl)) (noid1 (RA_noid t d)) (.tup _ (noid2 (.val _) (.val _))) (Nat.le_of_ble_eq_true rfl) ?_
  have hD := IsWhole_ok t d
  have h1 := IntW_ok t
  by_cases h : dn d = 1
  · rw [decide_eq_true h] at hD
    have e : fitQ t (dn d) ↔ fit t := ⟨fun h => h.2, fun h' => ⟨h, h'⟩⟩
    rw [decide_eq_decide.2 e, show (if fitQ t (dn d) then t else 0) = (if fit t then t else 0) by by_cases hf : fit t; rw [if_pos hf, if_pos (e.2 hf)]; rw [if_neg hf, if_neg (fun h => hf (e.1 h))]]
    unfold RA WI at *
    repeat
      conv => whnf
      first
        | refine ⟨_, by assumption, ?_⟩
        | refine ⟨(Nat.le_of_ble_eq_true rfl), _, by assumption, ?_⟩
        | refine ⟨by kernel_rfl, ?_⟩
        | exact rfl
  · rw [decide_eq_false h] at hD
    rw [if_neg (fun h' => h h'.1), decide_eq_false (fun h' : fitQ t (dn d) => h h'.1)]
    unfold RA WI at *
    repeat
      conv => whnf
      first
        | refine ⟨_, by assumption, ?_⟩
        | refine ⟨(Nat.le_of_ble_eq_true rfl), _, by assumption, ?_⟩
        | refine ⟨by kernel_rfl, ?_⟩
        | exact rfl
theorem QMinus_ok (t : Int) (d : Nat) : AC Try.prog 43 [RA t d] (.pure (RA (-t) (dn d))) := by
  refine AC.of_body TTok Try.func43 rfl (enter_of Try.func43 (by kernel_rfl) (by kernel_rfl)) (noid1 (RA_noid t d)) (RA_noid _ _) (Nat.le_of_ble_eq_true rfl) ?_
  have hD := down_ok t d
  have h1 := Minus_ok t
  revert h1
  generalize -t = e
  intro h1
  unfold RA WI natA at *
  repeat
    conv => whnf
    first
      | refine ⟨_, by assumption, ?_⟩
      | refine ⟨(Nat.le_of_ble_eq_true rfl), _, by assumption, ?_⟩
      | refine ⟨by kernel_rfl, ?_⟩
      | exact rfl
theorem Limited_ok (t : Int) (d : Nat) : AC Try.prog 59 [RA t d] (.pure (.val (.bool (decide (dn d = 1 ∧ (t.natAbs = 0 ∨ t.natAbs = 1)))))) := by
  refine AC.of_body TTok Try.func59 rfl (enter_of Try.func59 (by kernel_rfl) (by kernel_rfl)) (noid1 (RA_noid t d)) (.val _) (Nat.le_of_ble_eq_true rfl) ?_
  have hD := IsWhole_ok t d
  have h1 := Zero_ok t.natAbs
  have h2 := One_ok t.natAbs
  by_cases h : dn d = 1
  · rw [decide_eq_true h] at hD
    rw [show decide (dn d = 1 ∧ (t.natAbs = 0 ∨ t.natAbs = 1)) = (decide (t.natAbs = 0) || decide (t.natAbs = 1)) by simp [h]]
    by_cases hz : t.natAbs = 0
    · rw [decide_eq_true hz] at h1 ⊢
      unfold RA natA at *
      repeat
        conv => whnf
        first
          | refine ⟨_, by assumption, ?_⟩
          | refine ⟨(Nat.le_of_ble_eq_true rfl), _, by assumption, ?_⟩
          | refine ⟨by kernel_rfl, ?_⟩
          | exact rfl
    · rw [decide_eq_false hz] at h1 ⊢
      rw [Bool.false_or]
      unfold RA natA at *
      repeat
        conv => whnf
        first
          | refine ⟨_, by assumption, ?_⟩
          | refine ⟨(Nat.le_of_ble_eq_true rfl), _, by assumption, ?_⟩
          | refine ⟨by kernel_rfl, ?_⟩
          | exact rfl
  · rw [decide_eq_false h] at hD
    rw [decide_eq_false (fun h' => h h'.1)]
    unfold RA natA at *
    repeat
      conv => whnf
      first
        | refine ⟨_, by assumption, ?_⟩
        | refine ⟨(Nat.le_of_ble_eq_true rfl), _, by assumption, ?_⟩
        | refine ⟨by kernel_rfl, ?_⟩
        | exact rfl

section
variable (p q : Rat) (i j : Nat) (hi : dn i = p.den) (hj : dn j = q.den) (lp : Sz p 1000) (lq : Sz q 1000)
include hi hj lp lq

theorem QCmp_ok : AC Try.prog 41 [RA p.num i, RA q.num j] (.pure (.val (.int .i64 (cmpQ p q)))) := by
  refine AC.of_body TTok Try.func41 rfl (enter_of Try.func41 (by kernel_rfl) (by kernel_rfl)) (noid2 (RA_noid _ _) (RA_noid _ _)) (.val _) (Nat.le_of_ble_eq_true rfl) ?_
  have m1 := limbs_num_den p q
  have m2 := limbs_num_den q p
  have := lp.1; have := lp.2; have := lq.1; have := lq.2
  have u1 := under_ok p.num i
  have u2 := under_ok q.num j
  rw [hi] at u1
  rw [hj] at u2
  have t1 := Times1 p.num (q.den : Int) (by omega) (by rw [Int.natAbs_natCast]; omega) (by omega)
  have t2 := Times1 q.num (p.den : Int) (by omega) (by rw [Int.natAbs_natCast]; omega) (by omega)
  have hC := CmpW_ok (p.num * (q.den : Int)) (q.num * (p.den : Int)) (by omega) (by omega)
  rw [cmpZ_Q] at hC
  revert u1 u2 t1 t2 hC
  generalize p.num * (q.den : Int) = x
  generalize q.num * (p.den : Int) = y
  generalize (p.den : Int) = a
  generalize (q.den : Int) = b
  generalize cmpQ p q = c
  intro u1 u2 t1 t2 hC
  unfold RA WI rowW at *
  repeat
    conv => whnf
    first
      | refine ⟨_, by assumption, ?_⟩
      | refine ⟨(Nat.le_of_ble_eq_true rfl), _, by assumption, ?_⟩
      | refine ⟨by kernel_rfl, ?_⟩
      | exact rfl
theorem By_ok (h0 : q ≠ 0) : AC Try.prog 35 [RA p.num i, RA q.num j] (.pure (.tup [RA (p / q).num (p / q).den, .val (.bool true)])) := by
  refine AC.of_body TTok Try.func35 rfl (enter_of Try.func35 (by kernel_rfl) (by kernel_rfl)) (noid2 (RA_noid _ _) (RA_noid _ _)) (.tup _ (noid2 (RA_noid _ _) (.val _))) (Nat.le_of_ble_eq_true rfl) ?_
  have m1 := limbs_num_den p q
  have m2 := limbs_num_den q p
  rw [Int.mul_comm] at m2
  have := lp.1; have := lp.2; have := lq.1; have := lq.2
  have u1 := under_ok p.num i
  have u2 := under_ok q.num j
  rw [hi] at u1
  rw [hj] at u2
  have t1 := Times1 p.num (q.den : Int) (by omega) (by rw [Int.natAbs_natCast]; omega) (by omega)
  have t2 := Times1 (p.den : Int) q.num (by rw [Int.natAbs_natCast]; omega) (by omega) (by omega)
  have hC := New_ok (p.num * (q.den : Int)) ((p.den : Int) * q.num) (Int.mul_ne_zero (by have := p.den_nz; omega) (num_ne h0)) (by omega) (by omega)
  rw [q_div] at hC
  revert u1 u2 t1 t2 hC
  generalize p.num * (q.den : Int) = x
  generalize (p.den : Int) * q.num = y
  generalize (p.den : Int) = a
  generalize (q.den : Int) = b
  generalize p / q = c
  intro u1 u2 t1 t2 hC
  unfold RA WI rowW at *
  repeat
    conv => whnf
    first
      | refine ⟨_, by assumption, ?_⟩
      | refine ⟨(Nat.le_of_ble_eq_true rfl), _, by assumption, ?_⟩
      | refine ⟨by kernel_rfl, ?_⟩
      | exact rfl
end
theorem By_zero (p : Rat) (i j : Nat) (hi : dn i = p.den) (hj : dn j = (0 : Rat).den) (lp : Sz p 1000) : AC Try.prog 35 [RA p.num i, RA (0 : Rat).num j] (.pure (.tup [RA 0 0, .val (.bool false)])) := by
  refine AC.of_body TTok Try.func35 rfl (enter_of Try.func35 (by kernel_rfl) (by kernel_rfl)) (noid2 (RA_noid _ _) (RA_noid _ _)) (.tup _ (noid2 (RA_noid _ _) (.val _))) (Nat.le_of_ble_eq_true rfl) ?_
  have m1 := limbs_num_den p 0
  have l1 := limbs_1
  have := lp.1; have := lp.2
  have u1 := under_ok p.num i
  have u2 := under_ok (0 : Rat).num j
  rw [hi] at u1
  rw [hj] at u2
  have l0 : (limbs (0 : Rat).num.natAbs).length = 0 := by show (limbs 0).length = 0; rw [limbs_zero]; rfl
  have l2 : (limbs (0 : Rat).den).length = 1 := l1
  have t1 := Times1 p.num ((0 : Rat).den : Int) (by omega) (by rw [Int.natAbs_natCast]; omega) (by omega)
  have t2 := Times1 (p.den : Int) (0 : Rat).num (by rw [Int.natAbs_natCast]; omega) (by omega) (by rw [Rat.zero_num, Int.mul_zero]; show (limbs 0).length < _; rw [limbs_zero]; decide)
  rw [show (p.den : Int) * (0 : Rat).num = 0 by rw [Rat.zero_num, Int.mul_zero]] at t2
  have hC := New_zero (p.num * ((0 : Rat).den : Int))
  revert u1 u2 t1 t2 hC
  generalize p.num * ((0 : Rat).den : Int) = x
  generalize (p.den : Int) = a
  generalize ((0 : Rat).den : Int) = b
  generalize (0 : Rat).num = c
  intro u1 u2 t1 t2 hC
  unfold RA WI rowW at *
  repeat
    conv => whnf
    first
      | refine ⟨_, by assumption, ?_⟩
      | refine ⟨(Nat.le_of_ble_eq_true rfl), _, by assumption, ?_⟩
      | refine ⟨by kernel_rfl, ?_⟩
      | exact rfl

end Go.Proofs.Ytabgankeaagibaa

/- Contracts of ratios: sums and products of many, whole numbers around one, rests. -/
set_option linter.unusedVariables false
namespace Go.Proofs.Ytabgankeaagibaa
open Go Go.AL NM

/-- A ratio among those that are handed in, with what stands below its line. -/
def rowR (p : Rat × Nat) : List AV := [.sl 1 (irows .u32 (limbs p.1.num.natAbs)) false, .val (.bool (decide (p.1.num < 0))), .sl 1 (irows .u32 (limbs p.2)) false]
theorem rowR_noid (p : Rat × Nat) : ∀ x ∈ rowR p, NoId x := noid3 (noid_sl _ _ _) (.val _) (noid_sl _ _ _)
theorem rowsR_noid (l : List (Rat × Nat)) : ∀ r ∈ l.map rowR, ∀ x ∈ r, NoId x := by
  intro r hr
  obtain ⟨b, _, rfl⟩ := List.mem_map.1 hr
  exact rowR_noid b

section
variable (l : List (Rat × Nat)) (f : Nat → Rat) (g : Nat → Nat) (hl : l.length < 10000) (hl1 : ∀ k (h : k < l.length), dn (l[k]).2 = (l[k]).1.den) (hg : ∀ k, k ≤ l.length → dn (g k) = (f k).den) (hg1 : ∀ k, k < l.length → g (k + 1) = (f (k + 1)).den)
  (hb : ∀ k, k ≤ l.length → Sz (f k) 1000) (hbl : ∀ k (h : k < l.length), Sz (l[k]).1 1000)
include hl hl1 hg hg1 hb hbl
theorem QPlus_ok (hf : ∀ k (h : k < l.length), f (k + 1) = f k + (l[k]).1) : AC Try.prog 37 [RA (f 0).num (g 0), .sl 3 (l.map rowR) false] (.pure (RA (f l.length).num (g l.length))) := by
  refine AC.of_body TTok Try.func37 rfl (enter_of Try.func37 (by kernel_rfl) (by kernel_rfl)) (noid2 (RA_noid _ _) (.sl _ _ _ (rowsR_noid l))) (RA_noid _ _) (Nat.le_of_ble_eq_true rfl) ?_
  unfold RA
  conv => whnf
  refine SW.loopM TTok (fun k : Nat => [(2, .lp 0 0), (4, .lp 8 0), (7, .sl 3 (l.map rowR) false), (8, .val (.int .i64 l.length)), (9, .val (.int .i64 k))])
    (fun k => [(0, .cells 3 [rowR (f k, g k)]), (8, .cells 3 [[.sl 0 [] true, .val (.bool false), .sl 0 [] true]])]) 40 39 rfl (fun k => l.length - k) (fun k => k ≤ l.length) 0 [] (Nat.zero_le _)
    ⟨⟨rfl, rfl⟩, ⟨rfl, rfl⟩, ⟨rfl, rfl⟩, ⟨valI (by simp), rfl⟩, ⟨rfl, rfl⟩, trivial⟩ ⟨⟨rfl, .inl ⟨rfl, ?_⟩⟩, ⟨rfl, .inr ⟨rfl, rfl⟩⟩, trivial⟩ rfl ?_
  · intro r hr; simp at hr; subst hr; exact rowR_noid _
  intro k hk
  have hk : k ≤ l.length := hk
  conv => whnf
  refine caseb (fun h1 => ?_) (fun h1 => ?_)
  · have h1' : (k : Int) < (l.length : Int) := of_decide_eq_true h1
    have hlt : k < l.length := by omega
    obtain ⟨q, hq⟩ : ∃ q, q = l[k] := ⟨_, rfl⟩
    have hj := hl1 k hlt
    have lq := hbl k hlt
    have hF := hf k hlt
    rw [← hq] at hj lq hF
    obtain ⟨p, hp⟩ : ∃ p, p = f k := ⟨_, rfl⟩
    have hi := hg k hk
    have lp := hb k hk
    have hg' := hg1 k hlt
    rw [← hp] at hi lp hF
    rw [hF] at hg'
    have m1 := limbs_num_den p q.1
    have m2 := limbs_num_den q.1 p
    have m3 := limbs_den_mul p q.1
    have m4 := limbs_abs_add (p.num * (q.1.den : Int)) (q.1.num * (p.den : Int))
    have := lp.1; have := lp.2; have := lq.1; have := lq.2
    have u1 := under_ok p.num (g k)
    have u2 := under_ok q.1.num q.2
    rw [hi] at u1
    rw [hj] at u2
    have t1 := Times1 p.num (q.1.den : Int) (by omega) (by rw [Int.natAbs_natCast]; omega) (by omega)
    have t2 := Times1 q.1.num (p.den : Int) (by omega) (by rw [Int.natAbs_natCast]; omega) (by omega)
    have t3 := Times1 (p.den : Int) (q.1.den : Int) (by rw [Int.natAbs_natCast]; omega) (by rw [Int.natAbs_natCast]; omega) (by omega)
    have hP := Plus1 (p.num * (q.1.den : Int)) (q.1.num * (p.den : Int)) (by omega) (by omega) (by omega)
    have hN := New_ok (p.num * (q.1.den : Int) + q.1.num * (p.den : Int)) ((p.den : Int) * (q.1.den : Int)) (den_mul_ne p q.1) (by omega) (by omega)
    rw [q_add] at hN
    have hrow : (l.map rowR)[k]? = some (rowR q) := by rw [List.getElem?_map, List.getElem?_eq_getElem hlt, hq]; rfl
    have hr2 : rowR (f (k + 1), g (k + 1)) = [.sl 1 (irows .u32 (limbs (p + q.1).num.natAbs)) false, .val (.bool (decide ((p + q.1).num < 0))), .sl 1 (irows .u32 (limbs (p + q.1).den)) false] := by
      unfold rowR; rw [hF, hg']
    clear hF hg' hf hg hg1 hl1 hb hbl m1 m2 m3 m4
    revert t1 t2 t3 hP hN hr2
    generalize p.num * (q.1.den : Int) + q.1.num * (p.den : Int) = z
    generalize p.num * (q.1.den : Int) = x
    generalize q.1.num * (p.den : Int) = y
    generalize (p.den : Int) * (q.1.den : Int) = w
    generalize p + q.1 = s
    intro t1 t2 t3 hP hN hr2
    unfold RA WI rowW at *
    conv => whnf
    refine ⟨rowR q, ⟨by omega, by rw [show ((k : Int)).toNat = k by omega]; exact hrow⟩, ?_⟩
    subst hp
    conv => whnf
    refine ⟨_, u2, ?_⟩
    conv => whnf
    refine ⟨(Nat.le_of_ble_eq_true rfl), _, t1, ?_⟩
    conv => whnf
    refine ⟨_, u1, ?_⟩
    conv => whnf
    refine ⟨(Nat.le_of_ble_eq_true rfl), _, t2, ?_⟩
    conv => whnf
    refine ⟨(Nat.le_of_ble_eq_true rfl), _, hP, ?_⟩
    conv => whnf
    refine ⟨_, u1, ?_⟩
    conv => whnf
    refine ⟨_, u2, ?_⟩
    conv => whnf
    refine ⟨(Nat.le_of_ble_eq_true rfl), _, t3, ?_⟩
    conv => whnf
    refine ⟨_, hN, ?_⟩
    conv => whnf
    refine ⟨by kernel_rfl, ?_⟩
    conv => whnf
    refine ⟨k + 1, [], (by show l.length - (k + 1) < l.length - k; omega), (by show k + 1 ≤ l.length; omega), ⟨⟨rfl, rfl⟩, ⟨rfl, rfl⟩, ⟨rfl, rfl⟩, ⟨rfl, rfl⟩, ⟨valI ?_, rfl⟩, trivial⟩, ⟨⟨rfl, .inl ⟨?_, fun r hr => by simp at hr; subst hr; exact rowR_noid _⟩⟩, ⟨rfl, .inr ⟨rfl, rfl⟩⟩, trivial⟩, rfl⟩
    · show IntKind.i64.wrap ((k : Int) + 1) = ((k + 1 : Nat) : Int)
      rw [IntWalk.i64_in _ (by omega)]; omega
    · show _ = some (LB.cells 3 [rowR (f (k + 1), g (k + 1))])
      rw [hr2]; rfl
  · have h1' : ¬ (k : Int) < (l.length : Int) := of_decide_eq_false h1
    have hkl : k = l.length := by omega
    conv => whnf
    show RA (f k).num (g k) = RA (f l.length).num (g l.length)
    rw [hkl]
theorem QTimes_ok (hf : ∀ k (h : k < l.length), f (k + 1) = f k * (l[k]).1) : AC Try.prog 39 [RA (f 0).num (g 0), .sl 3 (l.map rowR) false] (.pure (RA (f l.length).num (g l.length))) := by
  refine AC.of_body TTok Try.func39 rfl (enter_of Try.func39 (by kernel_rfl) (by kernel_rfl)) (noid2 (RA_noid _ _) (.sl _ _ _ (rowsR_noid l))) (RA_noid _ _) (Nat.le_of_ble_eq_true rfl) ?_
  unfold RA
  conv => whnf
  refine SW.loopM TTok (fun k : Nat => [(2, .lp 0 0), (4, .lp 8 0), (7, .sl 3 (l.map rowR) false), (8, .val (.int .i64 l.length)), (9, .val (.int .i64 k))])
    (fun k => [(0, .cells 3 [rowR (f k, g k)]), (8, .cells 3 [[.sl 0 [] true, .val (.bool false), .sl 0 [] true]])]) 40 31 rfl (fun k => l.length - k) (fun k => k ≤ l.length) 0 [] (Nat.zero_le _)
    ⟨⟨rfl, rfl⟩, ⟨rfl, rfl⟩, ⟨rfl, rfl⟩, ⟨valI (by simp), rfl⟩, ⟨rfl, rfl⟩, trivial⟩ ⟨⟨rfl, .inl ⟨rfl, ?_⟩⟩, ⟨rfl, .inr ⟨rfl, rfl⟩⟩, trivial⟩ rfl ?_
  · intro r hr; simp at hr; subst hr; exact rowR_noid _
  intro k hk
  have hk : k ≤ l.length := hk
  conv => whnf
  refine caseb (fun h1 => ?_) (fun h1 => ?_)
  · have h1' : (k : Int) < (l.length : Int) := of_decide_eq_true h1
    have hlt : k < l.length := by omega
    obtain ⟨q, hq⟩ : ∃ q, q = l[k] := ⟨_, rfl⟩
    have hj := hl1 k hlt
    have lq := hbl k hlt
    have hF := hf k hlt
    rw [← hq] at hj lq hF
    obtain ⟨p, hp⟩ : ∃ p, p = f k := ⟨_, rfl⟩
    have hi := hg k hk
    have lp := hb k hk
    have hg' := hg1 k hlt
    rw [← hp] at hi lp hF
    rw [hF] at hg'
    have m3 := limbs_den_mul p q.1
    have m4 := limbs_abs_mul p.num q.1.num
    have := lp.1; have := lp.2; have := lq.1; have := lq.2
    have u1 := under_ok p.num (g k)
    have u2 := under_ok q.1.num q.2
    rw [hi] at u1
    rw [hj] at u2
    have t1 := Times1 p.num q.1.num (by omega) (by omega) (by omega)
    have t3 := Times1 (p.den : Int) (q.1.den : Int) (by rw [Int.natAbs_natCast]; omega) (by rw [Int.natAbs_natCast]; omega) (by omega)
    have hN := New_ok (p.num * q.1.num) ((p.den : Int) * (q.1.den : Int)) (den_mul_ne p q.1) (by omega) (by omega)
    rw [q_mul] at hN
    have hrow : (l.map rowR)[k]? = some (rowR q) := by rw [List.getElem?_map, List.getElem?_eq_getElem hlt, hq]; rfl
    have hr2 : rowR (f (k + 1), g (k + 1)) = [.sl 1 (irows .u32 (limbs (p * q.1).num.natAbs)) false, .val (.bool (decide ((p * q.1).num < 0))), .sl 1 (irows .u32 (limbs (p * q.1).den)) false] := by
      unfold rowR; rw [hF, hg']
    clear hF hg' hf hg hg1 hl1 hb hbl m3 m4
    revert t1 t3 hN hr2
    generalize p.num * q.1.num = x
    generalize (p.den : Int) * (q.1.den : Int) = w
    generalize p * q.1 = s
    intro t1 t3 hN hr2
    unfold RA WI rowW at *
    conv => whnf
    refine ⟨rowR q, ⟨by omega, by rw [show ((k : Int)).toNat = k by omega]; exact hrow⟩, ?_⟩
    subst hp
    conv => whnf
    refine ⟨(Nat.le_of_ble_eq_true rfl), _, t1, ?_⟩
    conv => whnf
    refine ⟨_, u1, ?_⟩
    conv => whnf
    refine ⟨_, u2, ?_⟩
    conv => whnf
    refine ⟨(Nat.le_of_ble_eq_true rfl), _, t3, ?_⟩
    conv => whnf
    refine ⟨_, hN, ?_⟩
    conv => whnf
    refine ⟨by kernel_rfl, ?_⟩
    conv => whnf
    refine ⟨k + 1, [], (by show l.length - (k + 1) < l.length - k; omega), (by show k + 1 ≤ l.length; omega), ⟨⟨rfl, rfl⟩, ⟨rfl, rfl⟩, ⟨rfl, rfl⟩, ⟨rfl, rfl⟩, ⟨valI ?_, rfl⟩, trivial⟩, ⟨⟨rfl, .inl ⟨?_, fun r hr => by simp at hr; subst hr; exact rowR_noid _⟩⟩, ⟨rfl, .inr ⟨rfl, rfl⟩⟩, trivial⟩, rfl⟩
    · show IntKind.i64.wrap ((k : Int) + 1) = ((k + 1 : Nat) : Int)
      rw [IntWalk.i64_in _ (by omega)]; omega
    · show _ = some (LB.cells 3 [rowR (f (k + 1), g (k + 1))])
      rw [hr2]; rfl
  · have h1' : ¬ (k : Int) < (l.length : Int) := of_decide_eq_false h1
    have hkl : k = l.length := by omega
    conv => whnf
    show RA (f k).num (g k) = RA (f l.length).num (g l.length)
    rw [hkl]
end

theorem QPlus_nil (t : Int) (d : Nat) : AC Try.prog 37 [RA t d, .sl 0 [] true] (.pure (RA t d)) := by
  refine AC.of_body TTok Try.func37 rfl (enter_of Try.func37 (by kernel_rfl) (by kernel_rfl)) (noid2 (RA_noid _ _) (.sl _ _ _ (fun r hr => (nomatch hr)))) (RA_noid _ _) (Nat.le_of_ble_eq_true rfl) ?_
  conv => whnf
  refine SW.loopM TTok (fun k : Nat => [(2, .lp 0 0), (4, .lp 8 0), (8, .val (.int .i64 0)), (9, .val (.int .i64 0))])
    (fun k => [(0, .cells 3 [[.sl 1 (irows .u32 (limbs t.natAbs)) false, .val (.bool (decide (t < 0))), .sl 1 (irows .u32 (limbs d)) false]]), (8, .cells 3 [[.sl 0 [] true, .val (.bool false), .sl 0 [] true]])]) 40 39 rfl (fun k => k) (fun k => True) 0 [] trivial
    ⟨⟨rfl, rfl⟩, ⟨rfl, rfl⟩, ⟨rfl, rfl⟩, ⟨rfl, rfl⟩, trivial⟩ ⟨⟨rfl, .inr ⟨rfl, rfl⟩⟩, ⟨rfl, .inr ⟨rfl, rfl⟩⟩, trivial⟩ rfl ?_
  intro k hk
  conv => whnf
  exact rfl
theorem QTimes_nil (t : Int) (d : Nat) : AC Try.prog 39 [RA t d, .sl 0 [] true] (.pure (RA t d)) := by
  refine AC.of_body TTok Try.func39 rfl (enter_of Try.func39 (by kernel_rfl) (by kernel_rfl)) (noid2 (RA_noid _ _) (.sl _ _ _ (fun r hr => (nomatch hr)))) (RA_noid _ _) (Nat.le_of_ble_eq_true rfl) ?_
  conv => whnf
  refine SW.loopM TTok (fun k : Nat => [(2, .lp 0 0), (4, .lp 8 0), (8, .val (.int .i64 0)), (9, .val (.int .i64 0))])
    (fun k => [(0, .cells 3 [[.sl 1 (irows .u32 (limbs t.natAbs)) false, .val (.bool (decide (t < 0))), .sl 1 (irows .u32 (limbs d)) false]]), (8, .cells 3 [[.sl 0 [] true, .val (.bool false), .sl 0 [] true]])]) 40 31 rfl (fun k => k) (fun k => True) 0 [] trivial
    ⟨⟨rfl, rfl⟩, ⟨rfl, rfl⟩, ⟨rfl, rfl⟩, ⟨rfl, rfl⟩, trivial⟩ ⟨⟨rfl, .inr ⟨rfl, rfl⟩⟩, ⟨rfl, .inr ⟨rfl, rfl⟩⟩, trivial⟩ rfl ?_
  intro k hk
  conv => whnf
  exact rfl

/-- One more number. -/
theorem QPlus1 (p q : Rat) (i j : Nat) (hi : dn i = p.den) (hj : dn j = q.den) (lp : Sz p 400) (lq : Sz q 90) : AC Try.prog 37 [RA p.num i, .sl 3 [rowR (q, j)] false] (.pure (RA (p + q).num (p + q).den)) :=
  QPlus_ok [(q, j)] (fun k => match k with | 0 => p | _ + 1 => p + q) (fun k => match k with | 0 => i | _ + 1 => (p + q).den) (Nat.le_of_ble_eq_true rfl)
    (fun k h => by match k, h with | 0, _ => exact hj | k + 1, h => exact absurd h (by simp))
    (fun k h => by match k with | 0 => exact hi | k + 1 => exact dn_den _)
    (fun k h => rfl)
    (fun k h => by match k with | 0 => exact lp.mono (by decide) | k + 1 => exact (Sz_add lp lq).mono (by decide))
    (fun k h => by match k, h with | 0, _ => exact lq.mono (by decide) | k + 1, h => exact absurd h (by simp))
    (fun k h => by match k, h with | 0, _ => rfl | k + 1, h => exact absurd h (by simp))
theorem QTimes1 (p q : Rat) (i j : Nat) (hi : dn i = p.den) (hj : dn j = q.den) (lp : Sz p 400) (lq : Sz q 400) : AC Try.prog 39 [RA p.num i, .sl 3 [rowR (q, j)] false] (.pure (RA (p * q).num (p * q).den)) :=
  QTimes_ok [(q, j)] (fun k => match k with | 0 => p | _ + 1 => p * q) (fun k => match k with | 0 => i | _ + 1 => (p * q).den) (Nat.le_of_ble_eq_true rfl)
    (fun k h => by match k, h with | 0, _ => exact hj | k + 1, h => exact absurd h (by simp))
    (fun k h => by match k with | 0 => exact hi | k + 1 => exact dn_den _)
    (fun k h => rfl)
    (fun k h => by match k with | 0 => exact lp.mono (by decide) | k + 1 => exact (Sz_mul lp lq).mono (by decide))
    (fun k h => by match k, h with | 0, _ => exact lq.mono (by decide) | k + 1, h => exact absurd h (by simp))
    (fun k h => by match k, h with | 0, _ => rfl | k + 1, h => exact absurd h (by simp))
/-- Two more numbers. -/
theorem QPlus2 (p q r : Rat) (i j k : Nat) (hi : dn i = p.den) (hj : dn j = q.den) (hk : dn k = r.den) (lp : Sz p 60) (lq : Sz q 60) (lr : Sz r 60) : AC Try.prog 37 [RA p.num i, .sl 3 [rowR (q, j), rowR (r, k)] false] (.pure (RA (p + q + r).num (p + q + r).den)) :=
  QPlus_ok [(q, j), (r, k)] (fun k => match k with | 0 => p | 1 => p + q | _ + 2 => p + q + r) (fun k => match k with | 0 => i | 1 => (p + q).den | _ + 2 => (p + q + r).den) (Nat.le_of_ble_eq_true rfl)
    (fun k h => by match k, h with | 0, _ => exact hj | 1, _ => exact hk | k + 2, h => exact absurd h (by simp))
    (fun k h => by match k with | 0 => exact hi | 1 => exact dn_den _ | k + 2 => exact dn_den _)
    (fun k h => by match k with | 0 => rfl | k + 1 => rfl)
    (fun k h => by match k with | 0 => exact lp.mono (by decide) | 1 => exact (Sz_add lp lq).mono (by decide) | k + 2 => exact (Sz_add (Sz_add lp lq) lr).mono (by decide))
    (fun k h => by match k, h with | 0, _ => exact lq.mono (by decide) | 1, _ => exact lr.mono (by decide) | k + 2, h => exact absurd h (by simp))
    (fun k h => by match k, h with | 0, _ => rfl | 1, _ => rfl | k + 2, h => exact absurd h (by simp))

end Go.Proofs.Ytabgankeaagibaa

/- Contracts of ratios: whole numbers around one, rests. -/
set_option linter.unusedVariables false
namespace Go.Proofs.Ytabgankeaagibaa
open Go Go.AL NM

theorem QFloor_ok (p : Rat) (i : Nat) (hi : dn i = p.den) (lp : Sz p 1000) : AC Try.prog 64 [RA p.num i] (.pure (WI p.floor)) := by
  refine AC.of_body TTok Try.func64 rfl (enter_of Try.func64 (by kernel_rfl) (by kernel_rfl)) (noid1 (RA_noid _ _)) (WI_noid _) (Nat.le_of_ble_eq_true rfl) ?_
  have := lp.1; have := lp.2
  have hb0 : (p.den : Int) ≠ 0 := by have := p.den_nz; omega
  have u1 := under_ok p.num i
  rw [hi] at u1
  have hF := Floor_ok p.num (p.den : Int) hb0 (by omega) (by rw [Int.natAbs_natCast]; omega) (DivMod_ok p.num.natAbs (p.den : Int).natAbs (by omega) (by omega) (by rw [Int.natAbs_natCast]; omega))
  rw [flQ_floor] at hF
  revert u1 hF
  generalize (p.den : Int) = b
  generalize flR p.num b = r
  generalize p.floor = f
  intro u1 hF
  unfold RA WI at *
  repeat
    conv => whnf
    first
      | refine ⟨_, by assumption, ?_⟩
      | refine ⟨(Nat.le_of_ble_eq_true rfl), _, by assumption, ?_⟩
      | refine ⟨by kernel_rfl, ?_⟩
      | exact rfl
theorem QCeil_ok (p : Rat) (i : Nat) (hi : dn i = p.den) (lp : Sz p 1000) : AC Try.prog 66 [RA p.num i] (.pure (WI p.ceil)) := by
  refine AC.of_body TTok Try.func66 rfl (enter_of Try.func66 (by kernel_rfl) (by kernel_rfl)) (noid1 (RA_noid _ _)) (WI_noid _) (Nat.le_of_ble_eq_true rfl) ?_
  have hM := QMinus_ok p.num i
  rw [hi] at hM
  have hF := QFloor_ok (-p) p.den (dn_self p.den_nz) (Sz_neg lp)
  rw [Rat.neg_num] at hF
  have hN := Minus_ok (-p).floor
  rw [← Rat.ceil_eq_neg_floor_neg] at hN
  revert hM hF hN
  generalize (-p).floor = f
  generalize p.ceil = c
  generalize -p.num = n
  intro hM hF hN
  unfold RA WI at *
  repeat
    conv => whnf
    first
      | refine ⟨_, by assumption, ?_⟩
      | refine ⟨(Nat.le_of_ble_eq_true rfl), _, by assumption, ?_⟩
      | refine ⟨by kernel_rfl, ?_⟩
      | exact rfl
/-- What is left of x by a. -/
def restQ (a x : Rat) : Rat := if a = 0 then x else x + -(a * ((x / a).floor : Rat))
theorem Rest_zero (x : Rat) (i j : Nat) (hi : dn i = (0 : Rat).den) (hj : dn j = x.den) (lx : Sz x 1000) : AC Try.prog 45 [RA (0 : Rat).num i, RA x.num j] (.pure (RA x.num j)) := by
  refine AC.of_body TTok Try.func45 rfl (enter_of Try.func45 (by kernel_rfl) (by kernel_rfl)) (noid2 (RA_noid _ _) (RA_noid _ _)) (RA_noid _ _) (Nat.le_of_ble_eq_true rfl) ?_
  have hB := By_zero x j i hj hi lx
  unfold RA at *
  repeat
    conv => whnf
    first
      | refine ⟨_, by assumption, ?_⟩
      | refine ⟨(Nat.le_of_ble_eq_true rfl), _, by assumption, ?_⟩
      | refine ⟨by kernel_rfl, ?_⟩
      | exact rfl
theorem Rest_ok (a x : Rat) (i j : Nat) (h0 : a ≠ 0) (hi : dn i = a.den) (hj : dn j = x.den) (la : Sz a 20) (lx : Sz x 20) : AC Try.prog 45 [RA a.num i, RA x.num j] (.pure (RA (restQ a x).num (restQ a x).den)) := by
  unfold restQ
  rw [if_neg h0]
  refine AC.of_body TTok Try.func45 rfl (enter_of Try.func45 (by kernel_rfl) (by kernel_rfl)) (noid2 (RA_noid _ _) (RA_noid _ _)) (RA_noid _ _) (Nat.le_of_ble_eq_true rfl) ?_
  have hB := By_ok x a j i hj hi (lx.mono (by decide)) (la.mono (by decide)) h0
  have sB := Sz_div h0 lx la
  have hF := QFloor_ok (x / a) (x / a).den (dn_self (Rat.den_nz _)) (sB.mono (by decide))
  have lF := limbs_floor sB
  have hW := Whole_ok (x / a).floor
  have sF : Sz ((x / a).floor : Rat) 42 := Sz_int (by decide) lF
  have hT := QTimes1 a ((x / a).floor : Rat) i 1 hi rfl (la.mono (by decide)) (sF.mono (by decide))
  have hM := QMinus_ok (a * ((x / a).floor : Rat)).num (a * ((x / a).floor : Rat)).den
  rw [dn_den] at hM
  have sM := Sz_neg (Sz_mul la sF)
  have hP := QPlus1 x (-(a * ((x / a).floor : Rat))) j (a * ((x / a).floor : Rat)).den hj (dn_den _) (lx.mono (by decide)) (sM.mono (by decide))
  rw [← Rat.neg_num] at hM
  unfold rowR at hT hP
  simp only [Rat.num_intCast] at hT
  clear sB lF sF sM
  revert hB hF hW hT hM hP
  generalize x + -(a * ((x / a).floor : Rat)) = s
  generalize -(a * ((x / a).floor : Rat)) = m
  generalize a * ((x / a).floor : Rat) = t
  generalize (x / a).floor = f
  generalize x / a = q
  intro hB hF hW hT hM hP
  unfold RA WI at *
  repeat
    conv => whnf
    first
      | refine ⟨_, by assumption, ?_⟩
      | refine ⟨(Nat.le_of_ble_eq_true rfl), _, by assumption, ?_⟩
      | refine ⟨by kernel_rfl, ?_⟩
      | exact rfl

end Go.Proofs.Ytabgankeaagibaa

/- Contracts of the document's ratios: how a number is made, and what is told of one. -/
set_option linter.unusedVariables false
namespace Go.Proofs.Ytabgankeaagibaa
open Go Go.AL NM

theorem decL_le (n : Nat) : (decL n).length ≤ 10 * (limbs n).length + 1 := decL_limbs n
theorem STop_ok (t : Int) (d : Nat) (lt : (limbs t.natAbs).length ≤ 100000) : AC Try.prog 55 [RN t d] (.pure (WR t)) := by
  refine AC.of_body TTok Try.func55 rfl (enter_of Try.func55 (by kernel_rfl) (by kernel_rfl)) (noid1 (RN_noid t d)) (WR_noid _) (Nat.le_of_ble_eq_true rfl) ?_
  have h1 := decL_le t.natAbs
  have hO := ROfW_ok (decide (t < 0)) t.natAbs (by omega)
  rw [sgn_self] at hO
  unfold RN WR at *
  repeat
    conv => whnf
    first
      | refine ⟨_, by assumption, ?_⟩
      | refine ⟨(Nat.le_of_ble_eq_true rfl), _, by assumption, ?_⟩
      | refine ⟨by kernel_rfl, ?_⟩
      | exact rfl
theorem SBot_ok (t : Int) (d : Nat) (ld : (limbs d).length ≤ 100000) : AC Try.prog 98 [RN t d] (.pure (WR (d : Int))) := by
  refine AC.of_body TTok Try.func98 rfl (enter_of Try.func98 (by kernel_rfl) (by kernel_rfl)) (noid1 (RN_noid t d)) (WR_noid _) (Nat.le_of_ble_eq_true rfl) ?_
  have h1 := decL_le d
  have hO := ROfW_ok false d (by omega)
  rw [show sgn false d = (d : Int) from rfl] at hO
  unfold RN WR at *
  repeat
    conv => whnf
    first
      | refine ⟨_, by assumption, ?_⟩
      | refine ⟨(Nat.le_of_ble_eq_true rfl), _, by assumption, ?_⟩
      | refine ⟨by kernel_rfl, ?_⟩
      | exact rfl
theorem SZero_ok : AC Try.prog 83 [] (.pure (RN 0 1)) := by
  refine AC.of_body TTok Try.func83 rfl (enter_of Try.func83 (by kernel_rfl) (by kernel_rfl)) (by intro x hx; cases hx) (RN_noid _ _) (Nat.le_of_ble_eq_true rfl) ?_
  unfold RN
  rw [show (0 : Int).natAbs = 0 from rfl, decS_zero, decS_one]
  repeat
    conv => whnf
    first
      | refine ⟨_, by assumption, ?_⟩
      | refine ⟨(Nat.le_of_ble_eq_true rfl), _, by assumption, ?_⟩
      | refine ⟨by kernel_rfl, ?_⟩
      | exact rfl
theorem SFrom_ok (n : Int) (hn : -9223372036854775808 ≤ n ∧ n < 9223372036854775808) : AC Try.prog 51 [.val (.int .i64 n)] (.pure (RN n 1)) := by
  refine AC.of_body TTok Try.func51 rfl (enter_of Try.func51 (by kernel_rfl) (by kernel_rfl)) (noid1 (.val _)) (RN_noid _ _) (Nat.le_of_ble_eq_true rfl) ?_
  have h := RFrom_ok n hn
  unfold RN WR at *
  rw [decS_one]
  repeat
    conv => whnf
    first
      | refine ⟨_, by assumption, ?_⟩
      | refine ⟨(Nat.le_of_ble_eq_true rfl), _, by assumption, ?_⟩
      | refine ⟨by kernel_rfl, ?_⟩
      | exact rfl
theorem SWhole_ok (n : Int) : AC Try.prog 24 [WR n] (.pure (RN n 1)) := by
  refine AC.of_body TTok Try.func24 rfl (enter_of Try.func24 (by kernel_rfl) (by kernel_rfl)) (noid1 (WR_noid _)) (RN_noid _ _) (Nat.le_of_ble_eq_true rfl) ?_
  unfold RN WR at *
  rw [decS_one]
  repeat
    conv => whnf
    first
      | refine ⟨_, by assumption, ?_⟩
      | refine ⟨(Nat.le_of_ble_eq_true rfl), _, by assumption, ?_⟩
      | refine ⟨by kernel_rfl, ?_⟩
      | exact rfl
theorem SLimbs_ok (t : Int) (d : Nat) (lt : (limbs t.natAbs).length ≤ 1000) (ld : (limbs d).length ≤ 1000) : AC Try.prog 62 [RN t d] (.pure (.val (.int .i64 (qLimbs t d : Nat)))) := by
  refine AC.of_body TTok Try.func62 rfl (enter_of Try.func62 (by kernel_rfl) (by kernel_rfl)) (noid1 (RN_noid t d)) (.val _) (Nat.le_of_ble_eq_true rfl) ?_
  have b1 := blen_limbs' t.natAbs
  have b2 := blen_limbs' d
  have d1 := decL_le t.natAbs
  have d2 := decL_le d
  have h1 := RLimbs_ok t.natAbs (by omega) (by omega)
  have h2 := RLimbs_ok d (by omega) (by omega)
  unfold qLimbs
  unfold RN at *
  conv => whnf
  refine ⟨_, h1, ?_⟩
  conv => whnf
  refine ⟨_, h2, ?_⟩
  conv => whnf
  refine ⟨by kernel_rfl, ?_⟩
  conv => whnf
  refine caseb (fun h => ?_) (fun h => ?_)
  · have h' := of_decide_eq_true h
    conv => whnf
    exact valI (by omega)
  · have h' := of_decide_eq_false h
    conv => whnf
    exact valI (by omega)
theorem SInt_ok (t : Int) (d : Nat) (lt : (limbs t.natAbs).length ≤ 1000) : AC Try.prog 49 [RN t d] (.pure (.tup [.val (.int .i64 (if fitQ t d then t else 0)), .val (.bool (decide (fitQ t d)))])) := by
  refine AC.of_body TTok Try.func49 rfl (enter_of Try.func49 (by kernel_rfl) (by kernel_rfl)) (noid1 (RN_noid t d)) (.tup _ (noid2 (.val _) (.val _))) (Nat.le_of_ble_eq_true rfl) ?_
  have hT := STop_ok t d (by omega)
  have d1 := decL_le t.natAbs
  have hS := RSmall_ok t (by omega)
  have i1 := is1 d
  by_cases h : d = 1
  · rw [decide_eq_true h] at i1
    have e : fitQ t d ↔ fit t := ⟨fun h => h.2, fun h' => ⟨h, h'⟩⟩
    rw [decide_eq_decide.2 e, show (if fitQ t d then t else 0) = (if fit t then t else 0) by by_cases hf : fit t; rw [if_pos hf, if_pos (e.2 hf)]; rw [if_neg hf, if_neg (fun h => hf (e.1 h))]]
    have i2 : (!((decS d).toList == ({ data := #[49] } : ByteArray).toList)) = false := by rw [i1]; rfl
    unfold RN WR at *
    conv => whnf
    refine caseb (fun h => Bool.noConfusion ((i2).symm.trans h)) (fun _ => ?_)
    repeat
      conv => whnf
      first
        | refine ⟨_, by assumption, ?_⟩
        | refine ⟨(Nat.le_of_ble_eq_true rfl), _, by assumption, ?_⟩
        | refine ⟨by kernel_rfl, ?_⟩
        | exact rfl
  · rw [decide_eq_false h] at i1
    have i2 : (!((decS d).toList == ({ data := #[49] } : ByteArray).toList)) = true := by rw [i1]; rfl
    rw [if_neg (fun h' => h h'.1), decide_eq_false (fun h' : fitQ t d => h h'.1)]
    unfold RN WR at *
    conv => whnf
    refine caseb (fun _ => ?_) (fun h => Bool.noConfusion ((i2).symm.trans h))
    repeat
      conv => whnf
      first
        | refine ⟨_, by assumption, ?_⟩
        | refine ⟨(Nat.le_of_ble_eq_true rfl), _, by assumption, ?_⟩
        | refine ⟨by kernel_rfl, ?_⟩
        | exact rfl
theorem SMinus_ok (t : Int) (d : Nat) : AC Try.prog 63 [RN t d] (.pure (RN (-t) d)) := by
  refine AC.of_body TTok Try.func63 rfl (enter_of Try.func63 (by kernel_rfl) (by kernel_rfl)) (noid1 (RN_noid t d)) (RN_noid _ _) (Nat.le_of_ble_eq_true rfl) ?_
  have i0 := is0 t.natAbs
  unfold RN
  rw [Int.natAbs_neg]
  have e : decide (-t < 0) = (!decide (t < 0) && !((decS t.natAbs).toList == ({ data := #[48] } : ByteArray).toList)) := by
    rw [i0]
    by_cases h : t < 0
    · rw [decide_eq_true h, decide_eq_false (by omega)]; rfl
    · by_cases h0 : t = 0
      · subst h0; rfl
      · rw [decide_eq_false h, decide_eq_true (show -t < 0 by omega), decide_eq_false (show ¬ t.natAbs = 0 by omega)]; rfl
  rw [e]
  generalize decide (t < 0) = s
  cases s
  · conv => whnf
    exact agg3 (valB rfl) rfl rfl
  · conv => whnf
    exact agg3 (valB rfl) rfl rfl
theorem SLimited_ok (t : Int) (d : Nat) : AC Try.prog 60 [RN t d] (.pure (.val (.bool (decide (d = 1 ∧ (t.natAbs = 0 ∨ t.natAbs = 1)))))) := by
  refine AC.of_body TTok Try.func60 rfl (enter_of Try.func60 (by kernel_rfl) (by kernel_rfl)) (noid1 (RN_noid t d)) (.val _) (Nat.le_of_ble_eq_true rfl) ?_
  have i1 := is1 d
  have j0 := is0 t.natAbs
  have j1 := is1 t.natAbs
  have e : decide (d = 1 ∧ (t.natAbs = 0 ∨ t.natAbs = 1)) = (((decS d).toList == ({ data := #[49] } : ByteArray).toList) && (((decS t.natAbs).toList == ({ data := #[48] } : ByteArray).toList) || ((decS t.natAbs).toList == ({ data := #[49] } : ByteArray).toList))) := by
    rw [i1, j0, j1]
    simp only [Bool.decide_and, Bool.decide_or]
  rw [e]
  unfold RN
  conv => whnf
  refine caseb (fun h => ?_) (fun h => ?_)
  · rw [h]
    conv => whnf
    refine caseb (fun h' => ?_) (fun h' => ?_)
    · rw [h']
      conv => whnf
      exact rfl
    · rw [h']
      conv => whnf
      exact valB rfl
  · rw [h]
    conv => whnf
    exact rfl
theorem SNew_ok (x y : Int) (hy : y ≠ 0) (hl : (limbs x.natAbs).length + (limbs y.natAbs).length ≤ 600) :
    AC Try.prog 19 [WR x, WR y] (.pure (.tup [RN (Rat.divInt x y).num (Rat.divInt x y).den, .val (.bool true)])) := by
  refine AC.of_body TTok Try.func19 rfl (enter_of Try.func19 (by kernel_rfl) (by kernel_rfl)) (noid2 (WR_noid x) (WR_noid y)) (.tup _ (noid2 (RN_noid _ _) (.val _))) (Nat.le_of_ble_eq_true rfl) ?_
  have i0 := is0 y.natAbs
  rw [decide_eq_false (by omega)] at i0
  have hG := RGcd2 x.natAbs y.natAbs hl
  have hg : 0 < Nat.gcd x.natAbs y.natAbs := Nat.gcd_pos_of_pos_right _ (by omega)
  have lg := limbs_len_mono (Nat.gcd_le_right (n := y.natAbs) x.natAbs (by omega))
  have d1 := decL_le x.natAbs
  have d2 := decL_le y.natAbs
  have d3 := decL_le (Nat.gcd x.natAbs y.natAbs)
  have hD1 := RDivMod_ok x.natAbs (Nat.gcd x.natAbs y.natAbs) hg (by omega)
  have hD2 := RDivMod_ok y.natAbs (Nat.gcd x.natAbs y.natAbs) hg (by omega)
  have j0 := is0 (x.natAbs / Nat.gcd x.natAbs y.natAbs)
  have hn := congrArg (fun z => decide (z < 0)) (sgn_num x y hy)
  have ha := congrArg Int.natAbs (sgn_num x y hy)
  have hd := sgn_den x y hy
  simp only [sgn_neg] at hn
  rw [sgn_abs] at ha
  rw [← j0] at hn
  rw [← ha] at hD1 hn
  rw [← hd] at hD2
  clear hg lg hl hy d1 d2 d3 j0 ha hd
  revert hG hD1 hD2 hn
  generalize Nat.gcd x.natAbs y.natAbs = g
  generalize x.natAbs % g = b
  generalize y.natAbs % g = c
  generalize (Rat.divInt x y).num = n
  generalize (Rat.divInt x y).den = d
  intro hG hD1 hD2 hn
  unfold RN WR at *
  rw [hn]
  conv => whnf
  refine caseb (fun h => Bool.noConfusion ((i0).symm.trans h)) (fun _ => ?_)
  conv => whnf
  refine ⟨_, hG, ?_⟩
  conv => whnf
  refine ⟨_, hD1, ?_⟩
  conv => whnf
  refine ⟨_, hD2, ?_⟩
  conv => whnf
  refine caseb (fun h => ?_) (fun h => ?_)
  · conv => whnf
    exact tup2 (agg3 (valB (by rw [h]; rfl)) rfl rfl) rfl
  · conv => whnf
    exact tup2 (agg3 (valB (by rw [h]; rfl)) rfl rfl) rfl
theorem SNew_zero (x : Int) : AC Try.prog 19 [WR x, WR 0] (.pure (.tup [RN 0 1, .val (.bool false)])) := by
  refine AC.of_body TTok Try.func19 rfl (enter_of Try.func19 (by kernel_rfl) (by kernel_rfl)) (noid2 (WR_noid x) (WR_noid 0)) (.tup _ (noid2 (RN_noid _ _) (.val _))) (Nat.le_of_ble_eq_true rfl) ?_
  have i0 := is0 (0 : Int).natAbs
  rw [decide_eq_true (by rfl)] at i0
  have hZ := SZero_ok
  unfold RN WR at *
  conv => whnf
  refine caseb (fun _ => ?_) (fun h => Bool.noConfusion ((i0).symm.trans h))
  repeat
    conv => whnf
    first
      | refine ⟨_, by assumption, ?_⟩
      | refine ⟨(Nat.le_of_ble_eq_true rfl), _, by assumption, ?_⟩
      | refine ⟨by kernel_rfl, ?_⟩
      | exact rfl

end Go.Proofs.Ytabgankeaagibaa

/- Contracts of the document's ratios: order, sums, products, quotients, whole numbers around one, rests. -/
set_option linter.unusedVariables false
namespace Go.Proofs.Ytabgankeaagibaa
open Go Go.AL NM

section
variable (p q : Rat) (lp : Sz p 99) (lq : Sz q 99)
include lp lq
theorem SCmp_ok : AC Try.prog 42 [RN p.num p.den, RN q.num q.den] (.pure (.val (.int .i64 (cmpQ p q)))) := by
  refine AC.of_body TTok Try.func42 rfl (enter_of Try.func42 (by kernel_rfl) (by kernel_rfl)) (noid2 (RN_noid _ _) (RN_noid _ _)) (.val _) (Nat.le_of_ble_eq_true rfl) ?_
  have := lp.1; have := lp.2; have := lq.1; have := lq.2
  have t1 := STop_ok p.num p.den (by omega)
  have t2 := STop_ok q.num q.den (by omega)
  have b1 := SBot_ok p.num p.den (by omega)
  have b2 := SBot_ok q.num q.den (by omega)
  have m1 := RMulS p.num (q.den : Int) (by omega) (by rw [Int.natAbs_natCast]; omega)
  have m2 := RMulS q.num (p.den : Int) (by omega) (by rw [Int.natAbs_natCast]; omega)
  have hC := RCmpW_ok (p.num * (q.den : Int)) (q.num * (p.den : Int))
  rw [cmpZ_Q] at hC
  revert t1 t2 b1 b2 m1 m2 hC
  generalize p.num * (q.den : Int) = x
  generalize q.num * (p.den : Int) = y
  generalize (p.den : Int) = a
  generalize (q.den : Int) = b
  generalize cmpQ p q = c
  intro t1 t2 b1 b2 m1 m2 hC
  unfold RN WR at *
  repeat
    conv => whnf
    first
      | refine ⟨_, by assumption, ?_⟩
      | refine ⟨(Nat.le_of_ble_eq_true rfl), _, by assumption, ?_⟩
      | refine ⟨by kernel_rfl, ?_⟩
      | exact rfl
theorem SDiv_ok (h0 : q ≠ 0) : AC Try.prog 36 [RN p.num p.den, RN q.num q.den] (.pure (.tup [RN (p / q).num (p / q).den, .val (.bool true)])) := by
  refine AC.of_body TTok Try.func36 rfl (enter_of Try.func36 (by kernel_rfl) (by kernel_rfl)) (noid2 (RN_noid _ _) (RN_noid _ _)) (.tup _ (noid2 (RN_noid _ _) (.val _))) (Nat.le_of_ble_eq_true rfl) ?_
  have := lp.1; have := lp.2; have := lq.1; have := lq.2
  have l1 := limbs_num_den p q
  have l2 := limbs_num_den q p
  rw [Int.mul_comm] at l2
  have t1 := STop_ok p.num p.den (by omega)
  have t2 := STop_ok q.num q.den (by omega)
  have b1 := SBot_ok p.num p.den (by omega)
  have b2 := SBot_ok q.num q.den (by omega)
  have m1 := RMulS p.num (q.den : Int) (by omega) (by rw [Int.natAbs_natCast]; omega)
  have m2 := RMulS (p.den : Int) q.num (by rw [Int.natAbs_natCast]; omega) (by omega)
  have hC := SNew_ok (p.num * (q.den : Int)) ((p.den : Int) * q.num) (Int.mul_ne_zero (by have := p.den_nz; omega) (num_ne h0)) (by omega)
  rw [q_div] at hC
  revert t1 t2 b1 b2 m1 m2 hC
  generalize p.num * (q.den : Int) = x
  generalize (p.den : Int) * q.num = y
  generalize (p.den : Int) = a
  generalize (q.den : Int) = b
  generalize p / q = c
  intro t1 t2 b1 b2 m1 m2 hC
  unfold RN WR at *
  repeat
    conv => whnf
    first
      | refine ⟨_, by assumption, ?_⟩
      | refine ⟨(Nat.le_of_ble_eq_true rfl), _, by assumption, ?_⟩
      | refine ⟨by kernel_rfl, ?_⟩
      | exact rfl
theorem SMul_ok : AC Try.prog 40 [RN p.num p.den, RN q.num q.den] (.pure (RN (p * q).num (p * q).den)) := by
  refine AC.of_body TTok Try.func40 rfl (enter_of Try.func40 (by kernel_rfl) (by kernel_rfl)) (noid2 (RN_noid _ _) (RN_noid _ _)) (RN_noid _ _) (Nat.le_of_ble_eq_true rfl) ?_
  have := lp.1; have := lp.2; have := lq.1; have := lq.2
  have l1 := limbs_abs_mul p.num q.num
  have l2 := limbs_den_mul p q
  have t1 := STop_ok p.num p.den (by omega)
  have t2 := STop_ok q.num q.den (by omega)
  have b1 := SBot_ok p.num p.den (by omega)
  have b2 := SBot_ok q.num q.den (by omega)
  have m1 := RMulS p.num q.num (by omega) (by omega)
  have m2 := RMulS (p.den : Int) (q.den : Int) (by rw [Int.natAbs_natCast]; omega) (by rw [Int.natAbs_natCast]; omega)
  have hC := SNew_ok (p.num * q.num) ((p.den : Int) * (q.den : Int)) (den_mul_ne p q) (by omega)
  rw [q_mul] at hC
  revert t1 t2 b1 b2 m1 m2 hC
  generalize p.num * q.num = x
  generalize (p.den : Int) * (q.den : Int) = y
  generalize (p.den : Int) = a
  generalize (q.den : Int) = b
  generalize p * q = c
  intro t1 t2 b1 b2 m1 m2 hC
  unfold RN WR at *
  repeat
    conv => whnf
    first
      | refine ⟨_, by assumption, ?_⟩
      | refine ⟨(Nat.le_of_ble_eq_true rfl), _, by assumption, ?_⟩
      | refine ⟨by kernel_rfl, ?_⟩
      | exact rfl
end
theorem SAdd_ok (p q : Rat) (i j : Nat) (lp : Sz p i) (lq : Sz q j) (hij : i + j ≤ 190) : AC Try.prog 38 [RN p.num p.den, RN q.num q.den] (.pure (RN (p + q).num (p + q).den)) := by
  refine AC.of_body TTok Try.func38 rfl (enter_of Try.func38 (by kernel_rfl) (by kernel_rfl)) (noid2 (RN_noid _ _) (RN_noid _ _)) (RN_noid _ _) (Nat.le_of_ble_eq_true rfl) ?_
  have := lp.1; have := lp.2; have := lq.1; have := lq.2
  have l1 := limbs_num_den p q
  have l2 := limbs_num_den q p
  have l3 := limbs_den_mul p q
  have l4 := limbs_abs_add (p.num * (q.den : Int)) (q.num * (p.den : Int))
  have t1 := STop_ok p.num p.den (by omega)
  have t2 := STop_ok q.num q.den (by omega)
  have b1 := SBot_ok p.num p.den (by omega)
  have b2 := SBot_ok q.num q.den (by omega)
  have m1 := RMulS p.num (q.den : Int) (by omega) (by rw [Int.natAbs_natCast]; omega)
  have m2 := RMulS q.num (p.den : Int) (by omega) (by rw [Int.natAbs_natCast]; omega)
  have m3 := RMulS (p.den : Int) (q.den : Int) (by rw [Int.natAbs_natCast]; omega) (by rw [Int.natAbs_natCast]; omega)
  have hA := RAddS (p.num * (q.den : Int)) (q.num * (p.den : Int)) (by omega) (by omega)
  have hC := SNew_ok (p.num * (q.den : Int) + q.num * (p.den : Int)) ((p.den : Int) * (q.den : Int)) (den_mul_ne p q) (by omega)
  rw [q_add] at hC
  revert t1 t2 b1 b2 m1 m2 m3 hA hC
  generalize p.num * (q.den : Int) + q.num * (p.den : Int) = z
  generalize p.num * (q.den : Int) = x
  generalize q.num * (p.den : Int) = y
  generalize (p.den : Int) * (q.den : Int) = w
  generalize (p.den : Int) = a
  generalize (q.den : Int) = b
  generalize p + q = c
  intro t1 t2 b1 b2 m1 m2 m3 hA hC
  unfold RN WR at *
  repeat
    conv => whnf
    first
      | refine ⟨_, by assumption, ?_⟩
      | refine ⟨(Nat.le_of_ble_eq_true rfl), _, by assumption, ?_⟩
      | refine ⟨by kernel_rfl, ?_⟩
      | exact rfl
theorem SDiv_zero (p : Rat) (lp : Sz p 99) : AC Try.prog 36 [RN p.num p.den, RN (0 : Rat).num (0 : Rat).den] (.pure (.tup [RN 0 1, .val (.bool false)])) := by
  refine AC.of_body TTok Try.func36 rfl (enter_of Try.func36 (by kernel_rfl) (by kernel_rfl)) (noid2 (RN_noid _ _) (RN_noid _ _)) (.tup _ (noid2 (RN_noid _ _) (.val _))) (Nat.le_of_ble_eq_true rfl) ?_
  have := lp.1; have := lp.2
  have l1 := limbs_1
  have l0 : (limbs (0 : Rat).num.natAbs).length = 0 := by show (limbs 0).length = 0; rw [limbs_zero]; rfl
  have l2 : (limbs (0 : Rat).den).length = 1 := l1
  have t1 := STop_ok p.num p.den (by omega)
  have t2 := STop_ok (0 : Rat).num (0 : Rat).den (by omega)
  have b1 := SBot_ok p.num p.den (by omega)
  have b2 := SBot_ok (0 : Rat).num (0 : Rat).den (by omega)
  have m1 := RMulS p.num ((0 : Rat).den : Int) (by omega) (by rw [Int.natAbs_natCast]; omega)
  have m2 := RMulS (p.den : Int) (0 : Rat).num (by rw [Int.natAbs_natCast]; omega) (by omega)
  rw [show (p.den : Int) * (0 : Rat).num = 0 by rw [Rat.zero_num, Int.mul_zero]] at m2
  have hC := SNew_zero (p.num * ((0 : Rat).den : Int))
  revert t1 t2 b1 b2 m1 m2 hC
  generalize p.num * ((0 : Rat).den : Int) = x
  generalize (p.den : Int) = a
  generalize ((0 : Rat).den : Int) = b
  generalize (0 : Rat).num = c
  intro t1 t2 b1 b2 m1 m2 hC
  unfold RN WR at *
  repeat
    conv => whnf
    first
      | refine ⟨_, by assumption, ?_⟩
      | refine ⟨(Nat.le_of_ble_eq_true rfl), _, by assumption, ?_⟩
      | refine ⟨by kernel_rfl, ?_⟩
      | exact rfl
theorem SFloor_ok (p : Rat) (lp : Sz p 200) : AC Try.prog 65 [RN p.num p.den] (.pure (WR p.floor)) := by
  refine AC.of_body TTok Try.func65 rfl (enter_of Try.func65 (by kernel_rfl) (by kernel_rfl)) (noid1 (RN_noid _ _)) (WR_noid _) (Nat.le_of_ble_eq_true rfl) ?_
  have := lp.1; have := lp.2
  have t1 := STop_ok p.num p.den (by omega)
  have b1 := SBot_ok p.num p.den (by omega)
  have hF := RFloor_ok p.num (p.den : Int) (by have := p.den_nz; omega) (by omega) (by rw [Int.natAbs_natCast]; omega)
  rw [flQ_floor] at hF
  revert t1 b1 hF
  generalize (p.den : Int) = b
  generalize flR p.num b = r
  generalize p.floor = f
  intro t1 b1 hF
  unfold RN WR at *
  repeat
    conv => whnf
    first
      | refine ⟨_, by assumption, ?_⟩
      | refine ⟨(Nat.le_of_ble_eq_true rfl), _, by assumption, ?_⟩
      | refine ⟨by kernel_rfl, ?_⟩
      | exact rfl
theorem SCeil_ok (p : Rat) (lp : Sz p 200) : AC Try.prog 67 [RN p.num p.den] (.pure (WR p.ceil)) := by
  refine AC.of_body TTok Try.func67 rfl (enter_of Try.func67 (by kernel_rfl) (by kernel_rfl)) (noid1 (RN_noid _ _)) (WR_noid _) (Nat.le_of_ble_eq_true rfl) ?_
  have hM := SMinus_ok p.num p.den
  have hF := SFloor_ok (-p) (Sz_neg lp)
  have lf := limbs_floor (Sz_neg lp)
  have d1 := decL_le (-p).floor.natAbs
  rw [Rat.neg_num, Rat.neg_den] at hF
  have hN := RMinus_ok (-p).floor (by omega)
  rw [← Rat.ceil_eq_neg_floor_neg] at hN
  clear lf d1
  revert hM hF hN
  generalize (-p).floor = f
  generalize p.ceil = c
  generalize -p.num = n
  intro hM hF hN
  unfold RN WR at *
  repeat
    conv => whnf
    first
      | refine ⟨_, by assumption, ?_⟩
      | refine ⟨(Nat.le_of_ble_eq_true rfl), _, by assumption, ?_⟩
      | refine ⟨by kernel_rfl, ?_⟩
      | exact rfl
theorem SRest_zero (x : Rat) (lx : Sz x 99) : AC Try.prog 46 [RN (0 : Rat).num (0 : Rat).den, RN x.num x.den] (.pure (RN x.num x.den)) := by
  refine AC.of_body TTok Try.func46 rfl (enter_of Try.func46 (by kernel_rfl) (by kernel_rfl)) (noid2 (RN_noid _ _) (RN_noid _ _)) (RN_noid _ _) (Nat.le_of_ble_eq_true rfl) ?_
  have hB := SDiv_zero x lx
  unfold RN at *
  repeat
    conv => whnf
    first
      | refine ⟨_, by assumption, ?_⟩
      | refine ⟨(Nat.le_of_ble_eq_true rfl), _, by assumption, ?_⟩
      | refine ⟨by kernel_rfl, ?_⟩
      | exact rfl
theorem SRest_ok (a x : Rat) (h0 : a ≠ 0) (la : Sz a 20) (lx : Sz x 20) : AC Try.prog 46 [RN a.num a.den, RN x.num x.den] (.pure (RN (restQ a x).num (restQ a x).den)) := by
  unfold restQ
  rw [if_neg h0]
  refine AC.of_body TTok Try.func46 rfl (enter_of Try.func46 (by kernel_rfl) (by kernel_rfl)) (noid2 (RN_noid _ _) (RN_noid _ _)) (RN_noid _ _) (Nat.le_of_ble_eq_true rfl) ?_
  have hB := SDiv_ok x a (lx.mono (by decide)) (la.mono (by decide)) h0
  have sB := Sz_div h0 lx la
  have hF := SFloor_ok (x / a) (sB.mono (by decide))
  have lF := limbs_floor sB
  have hW := SWhole_ok (x / a).floor
  have sF : Sz ((x / a).floor : Rat) 42 := Sz_int (by decide) lF
  have hT := SMul_ok a ((x / a).floor : Rat) (la.mono (by decide)) (sF.mono (by decide))
  have hM := SMinus_ok (a * ((x / a).floor : Rat)).num (a * ((x / a).floor : Rat)).den
  have sM := Sz_neg (Sz_mul la sF)
  have hP := SAdd_ok x (-(a * ((x / a).floor : Rat))) 20 (20 + 42) lx sM (by decide)
  rw [← Rat.neg_num] at hM
  simp only [Rat.num_intCast, Rat.den_intCast] at hT
  rw [Rat.neg_den] at hP
  clear sB lF sF sM
  revert hB hF hW hT hM hP
  generalize x + -(a * ((x / a).floor : Rat)) = s
  generalize -(a * ((x / a).floor : Rat)) = m
  generalize a * ((x / a).floor : Rat) = t
  generalize (x / a).floor = f
  generalize x / a = q
  intro hB hF hW hT hM hP
  unfold RN WR at *
  repeat
    conv => whnf
    first
      | refine ⟨_, by assumption, ?_⟩
      | refine ⟨(Nat.le_of_ble_eq_true rfl), _, by assumption, ?_⟩
      | refine ⟨by kernel_rfl, ?_⟩
      | exact rfl

end Go.Proofs.Ytabgankeaagibaa

/- Contracts of ratios: which texts are numbers. -/
set_option linter.unusedVariables false
namespace Go.Proofs.Ytabgankeaagibaa
open Go Go.AL NM

/-- A number as the page speaks of it, right or not. -/
def RT (b : Bool) (s t : List Int) : AV := .agg [.val (.bool b), .val (.string (strL s)), .val (.string (strL t))]
theorem RT_noid (b : Bool) (s t : List Int) : NoId (RT b s t) := .agg _ (noid3 (.val _) (.val _) (.val _))
/-- Is it right? -/
def RQ (b : Bool) (s t : List Int) : Prop := right s = true ∧ right t = true ∧ s = decL (valL s) ∧ t = decL (valL t) ∧ valL t ≠ 0 ∧ Nat.gcd (valL s) (valL t) = 1 ∧ ¬ (b = true ∧ valL s = 0)
instance (b : Bool) (s t : List Int) : Decidable (RQ b s t) := inferInstanceAs (Decidable (_ ∧ _))
def qOf (b : Bool) (s t : List Int) : Rat := Rat.divInt (sgn b (valL s)) (valL t : Int)

theorem RQ_num {b : Bool} {s t : List Int} (h : RQ b s t) : (qOf b s t).num = sgn b (valL s) ∧ (qOf b s t).den = valL t := by
  obtain ⟨_, _, _, _, h0, hg, hn⟩ := h
  have hy : (valL t : Int) ≠ 0 := by omega
  unfold qOf
  rw [sgn_num _ _ hy, sgn_den _ _ hy, sgn_abs, Int.natAbs_natCast, hg, Nat.div_one, Nat.div_one]
  refine ⟨?_, rfl⟩
  congr 1
  rw [sgn_neg, decide_eq_false (show ¬ (valL t : Int) < 0 by omega)]
  cases b
  · rfl
  · rw [decide_eq_false (fun e => hn ⟨rfl, e⟩)]; rfl
theorem RQ_is {b : Bool} {s t : List Int} (h : RQ b s t) : RT b s t = RN (qOf b s t).num (qOf b s t).den := by
  obtain ⟨e1, e2⟩ := RQ_num h
  obtain ⟨_, _, hs, ht, h0, hg, hn⟩ := h
  rw [e1, e2]
  unfold RT RN decS
  rw [sgn_abs, ← hs, ← ht, sgn_neg]
  refine agg3 (valB ?_) rfl rfl
  cases b
  · rfl
  · rw [decide_eq_false (fun e => hn ⟨rfl, e⟩)]; rfl
theorem RQ_sz {b : Bool} {s t : List Int} (h : RQ b s t) {k l : Nat} (hs : s.length ≤ l) (ht : t.length ≤ l) (hk : 10 ^ l ≤ 4294967296 ^ k) : Sz (qOf b s t) k := by
  obtain ⟨e1, e2⟩ := RQ_num h
  obtain ⟨d1, _, _⟩ := right_dig h.1
  obtain ⟨d2, _, _⟩ := right_dig h.2.1
  have h1 := valL_lt d1
  have h2 := valL_lt d2
  have p1 := Nat.pow_le_pow_right (n := 10) (by decide) hs
  have p2 := Nat.pow_le_pow_right (n := 10) (by decide) ht
  refine ⟨?_, ?_⟩
  · rw [e1, sgn_abs]; exact limbs_len_le (by omega)
  · rw [e2]; exact limbs_len_le (by omega)
/-- The number that was made is written as it was read just if it is right. -/
theorem RQ_back {b : Bool} {s t : List Int} (hBs : Byt s) (hBt : Byt t) (hs : right s = true) (ht : right t = true) (h0 : valL t ≠ 0) :
    ((decide ((qOf b s t).num < 0) == b) && (((decS (qOf b s t).num.natAbs).toList == (strL s).toList) && (((decS (qOf b s t).den).toList == (strL t).toList) && true))) = decide (RQ b s t) := by
  rw [decS_is _ _ hBs, decS_is _ _ hBt, Bool.and_true]
  by_cases h : RQ b s t
  · obtain ⟨e1, e2⟩ := RQ_num h
    rw [decide_eq_true h, e1, e2, sgn_abs, sgn_neg]
    obtain ⟨_, _, hs, ht, h0, hg, hn⟩ := h
    rw [decide_eq_true hs.symm, decide_eq_true ht.symm]
    cases b
    · rfl
    · rw [decide_eq_false (fun e => hn ⟨rfl, e⟩)]; rfl
  · rw [decide_eq_false h]
    cases hc : (decide ((qOf b s t).num < 0) == b) && (decide (decL (qOf b s t).num.natAbs = s) && decide (decL (qOf b s t).den = t)) with
    | false => rfl
    | true =>
      exfalso
      simp only [Bool.and_eq_true, decide_eq_true_eq, beq_iff_eq] at hc
      obtain ⟨h1, h2, h3⟩ := hc
      have v1 : valL s = (qOf b s t).num.natAbs := (congrArg valL h2).symm.trans (valL_decL _)
      have v2 : valL t = (qOf b s t).den := (congrArg valL h3).symm.trans (valL_decL _)
      refine h ⟨hs, ht, h2.symm.trans (by rw [v1]), h3.symm.trans (by rw [v2]), h0, by rw [v1, v2]; exact (qOf b s t).reduced, fun hb => ?_⟩
      rw [hb.1] at h1
      have := of_decide_eq_true h1
      rw [← hb.1] at this
      have := hb.2
      omega

theorem SRight_ok (b : Bool) (s t : List Int) (hBs : Byt s) (hBt : Byt t) (ls : s.length ≤ 100) (lt : t.length ≤ 100) : AC Try.prog 21 [RT b s t] (.pure (.val (.bool (decide (RQ b s t))))) := by
  refine AC.of_body TTok Try.func21 rfl (enter_of Try.func21 (by kernel_rfl) (by kernel_rfl)) (noid1 (RT_noid b s t)) (.val _) (Nat.le_of_ble_eq_true rfl) ?_
  have r1 := Right_ok s hBs (by omega)
  have r2 := Right_ok t hBt (by omega)
  cases hr : right s with
  | false =>
    rw [hr] at r1
    rw [decide_eq_false (fun h : RQ b s t => Bool.noConfusion (h.1.symm.trans hr))]
    unfold RT
    repeat
      conv => whnf
      first
        | refine ⟨_, by assumption, ?_⟩
        | refine ⟨(Nat.le_of_ble_eq_true rfl), _, by assumption, ?_⟩
        | refine ⟨by kernel_rfl, ?_⟩
        | exact rfl
  | true =>
    rw [hr] at r1
    cases hr' : right t with
    | false =>
      rw [hr'] at r2
      rw [decide_eq_false (fun h : RQ b s t => Bool.noConfusion (h.2.1.symm.trans hr'))]
      unfold RT
      repeat
        conv => whnf
        first
          | refine ⟨_, by assumption, ?_⟩
          | refine ⟨(Nat.le_of_ble_eq_true rfl), _, by assumption, ?_⟩
          | refine ⟨by kernel_rfl, ?_⟩
          | exact rfl
    | true =>
      rw [hr'] at r2
      obtain ⟨d1, n1, _⟩ := right_dig hr
      obtain ⟨d2, n2, _⟩ := right_dig hr'
      have t1 := Trim_ok s d1 n1 (by omega)
      have t2 := Trim_ok t d2 n2 (by omega)
      have e1 := decS_is (valL s) s hBs
      have e2 := decS_is (valL t) t hBt
      by_cases c1 : decL (valL s) = s
      · rw [decide_eq_true c1] at e1
        have f1 : (!((decS (valL s)).toList == (strL s).toList)) = false := by rw [e1]; rfl
        by_cases c2 : decL (valL t) = t
        · rw [decide_eq_true c2] at e2
          have f2 : (!((decS (valL t)).toList == (strL t).toList)) = false := by rw [e2]; rfl
          have z := is0 (valL t)
          have s2 : strL t = decS (valL t) := by unfold decS; rw [c2]
          have s1 : strL s = decS (valL s) := by unfold decS; rw [c1]
          rw [← s2] at z
          by_cases c3 : valL t = 0
          · rw [decide_eq_true c3] at z
            rw [decide_eq_false (fun h : RQ b s t => h.2.2.2.2.1 c3)]
            unfold RT
            conv => whnf
            refine ⟨_, r1, ?_⟩
            conv => whnf
            refine ⟨_, r2, ?_⟩
            conv => whnf
            refine ⟨_, t1, ?_⟩
            conv => whnf
            refine caseb (fun h => Bool.noConfusion ((f1).symm.trans h)) (fun _ => ?_)
            conv => whnf
            refine ⟨_, t2, ?_⟩
            conv => whnf
            refine caseb (fun h => Bool.noConfusion ((f2).symm.trans h)) (fun _ => ?_)
            conv => whnf
            refine ⟨by kernel_rfl, ?_⟩
            conv => whnf
            refine caseb (fun _ => ?_) (fun h => Bool.noConfusion ((z).symm.trans h))
            repeat
              conv => whnf
              first
                | refine ⟨_, by assumption, ?_⟩
                | refine ⟨(Nat.le_of_ble_eq_true rfl), _, by assumption, ?_⟩
                | refine ⟨by kernel_rfl, ?_⟩
                | exact rfl
          · rw [decide_eq_false c3] at z
            have y := is0 (valL s)
            have k1 := limbs_ten (valL_lt d1)
            have k2 := limbs_ten (valL_lt d2)
            have hG := RGcd2 (valL s) (valL t) (by omega)
            have o := is1 (Nat.gcd (valL s) (valL t))
            rw [← s1] at y hG
            rw [← s2] at hG
            unfold RT
            conv => whnf
            refine ⟨_, r1, ?_⟩
            conv => whnf
            refine ⟨_, r2, ?_⟩
            conv => whnf
            refine ⟨_, t1, ?_⟩
            conv => whnf
            refine caseb (fun h => Bool.noConfusion ((f1).symm.trans h)) (fun _ => ?_)
            conv => whnf
            refine ⟨_, t2, ?_⟩
            conv => whnf
            refine caseb (fun h => Bool.noConfusion ((f2).symm.trans h)) (fun _ => ?_)
            conv => whnf
            refine ⟨by kernel_rfl, ?_⟩
            conv => whnf
            refine caseb (fun h => Bool.noConfusion ((z).symm.trans h)) (fun _ => ?_)
            conv => whnf
            refine ⟨_, hG, ?_⟩
            conv => whnf
            by_cases c4 : Nat.gcd (valL s) (valL t) = 1
            · rw [decide_eq_true c4] at o
              rw [o]
              have e : decide (RQ b s t) = !(b && decide (valL s = 0)) := by
                cases hb : b && decide (valL s = 0) with
                | true =>
                  simp only [Bool.and_eq_true, decide_eq_true_eq] at hb
                  exact decide_eq_false (fun h => h.2.2.2.2.2.2 hb)
                | false =>
                  refine decide_eq_true ⟨hr, hr', c1.symm, c2.symm, c3, c4, fun h => ?_⟩
                  rw [h.1, decide_eq_true h.2] at hb
                  cases hb
              rw [e, ← y]
              cases b
              · conv => whnf
                exact rfl
              · conv => whnf
                exact valB rfl
            · rw [decide_eq_false c4] at o
              rw [o, decide_eq_false (fun h : RQ b s t => c4 h.2.2.2.2.2.1)]
              conv => whnf
              exact rfl
        · rw [decide_eq_false c2] at e2
          have f2 : (!((decS (valL t)).toList == (strL t).toList)) = true := by rw [e2]; rfl
          rw [decide_eq_false (fun h : RQ b s t => c2 h.2.2.2.1.symm)]
          unfold RT
          conv => whnf
          refine ⟨_, r1, ?_⟩
          conv => whnf
          refine ⟨_, r2, ?_⟩
          conv => whnf
          refine ⟨_, t1, ?_⟩
          conv => whnf
          refine caseb (fun h => Bool.noConfusion ((f1).symm.trans h)) (fun _ => ?_)
          conv => whnf
          refine ⟨_, t2, ?_⟩
          conv => whnf
          refine caseb (fun _ => ?_) (fun h => Bool.noConfusion ((f2).symm.trans h))
          repeat
            conv => whnf
            first
              | refine ⟨_, by assumption, ?_⟩
              | refine ⟨(Nat.le_of_ble_eq_true rfl), _, by assumption, ?_⟩
              | refine ⟨by kernel_rfl, ?_⟩
              | exact rfl
      · rw [decide_eq_false c1] at e1
        have f1 : (!((decS (valL s)).toList == (strL s).toList)) = true := by rw [e1]; rfl
        rw [decide_eq_false (fun h : RQ b s t => c1 h.2.2.1.symm)]
        unfold RT
        conv => whnf
        refine ⟨_, r1, ?_⟩
        conv => whnf
        refine ⟨_, r2, ?_⟩
        conv => whnf
        refine ⟨_, t1, ?_⟩
        conv => whnf
        refine caseb (fun _ => ?_) (fun h => Bool.noConfusion ((f1).symm.trans h))
        repeat
          conv => whnf
          first
            | refine ⟨_, by assumption, ?_⟩
            | refine ⟨(Nat.le_of_ble_eq_true rfl), _, by assumption, ?_⟩
            | refine ⟨by kernel_rfl, ?_⟩
            | exact rfl

end Go.Proofs.Ytabgankeaagibaa

/- Contracts of ratios: numbers are read. -/
set_option linter.unusedVariables false
namespace Go.Proofs.Ytabgankeaagibaa
open Go Go.AL NM

/-- The zero value of a ratio. -/
def RZ : AV := .agg [.sl 0 [] true, .val (.bool false), .sl 0 [] true]
theorem RZ_noid : NoId RZ := .agg _ (noid3 (.sl _ _ _ (fun r hr => (nomatch hr))) (.val _) (.sl _ _ _ (fun r hr => (nomatch hr))))
theorem RZ_le : AVle RZ (RA 0 0) := by
  unfold RA
  rw [show (0 : Int).natAbs = 0 from rfl, limbs_zero]
  exact .agg _ _ rfl (fun i a b ha hb => by
    match i with
    | 0 => cases ha; cases hb; exact .sl _ _ _
    | 1 => cases ha; cases hb; exact .refl _
    | 2 => cases ha; cases hb; exact .sl _ _ _
    | (i + 3) => cases ha)
theorem RZ_res {P : Program} {f : FuncId} {args : List AV} {b : Bool} (h : AC P f args (.pure (.tup [RZ, .val (.bool b)]))) : AC P f args (.pure (.tup [RA 0 0, .val (.bool b)])) :=
  AC.le_res h (.tup2 RZ_le (.refl _)) (.tup _ (noid2 (RA_noid _ _) (.val _)))

theorem SOf_bad (b : Bool) (s t : List Int) (hBs : Byt s) (hBt : Byt t) (h : ¬ (right s = true ∧ right t = true)) : AC Try.prog 20 [RT b s t] (.pure (.tup [RA 0 0, .val (.bool false)])) := by
  refine RZ_res ?_
  refine AC.of_body TTok Try.func20 rfl (enter_of Try.func20 (by kernel_rfl) (by kernel_rfl)) (noid1 (RT_noid b s t)) (.tup _ (noid2 RZ_noid (.val _))) (Nat.le_of_ble_eq_true rfl) ?_
  have p1 := Parse_any s hBs
  have p2 := Parse_any t hBt
  revert p1 p2
  generalize (if right s = true then valL s else 0) = x
  generalize (if right t = true then valL t else 0) = y
  intro p1 p2
  cases hr : right s with
  | false =>
    rw [hr] at p1
    unfold RT natA at *
    repeat
      conv => whnf
      first
        | refine ⟨_, by assumption, ?_⟩
        | refine ⟨(Nat.le_of_ble_eq_true rfl), _, by assumption, ?_⟩
        | refine ⟨by kernel_rfl, ?_⟩
        | exact rfl
  | true =>
    have hr' : right t = false := by
      cases h' : right t with
      | false => rfl
      | true => exact absurd ⟨hr, h'⟩ h
    rw [hr] at p1
    rw [hr'] at p2
    unfold RT natA at *
    repeat
      conv => whnf
      first
        | refine ⟨_, by assumption, ?_⟩
        | refine ⟨(Nat.le_of_ble_eq_true rfl), _, by assumption, ?_⟩
        | refine ⟨by kernel_rfl, ?_⟩
        | exact rfl
theorem SOf_zero (b : Bool) (s t : List Int) (hBs : Byt s) (hBt : Byt t) (hs : right s = true) (ht : right t = true) (h0 : valL t = 0) : AC Try.prog 20 [RT b s t] (.pure (.tup [RA 0 0, .val (.bool false)])) := by
  refine AC.of_body TTok Try.func20 rfl (enter_of Try.func20 (by kernel_rfl) (by kernel_rfl)) (noid1 (RT_noid b s t)) (.tup _ (noid2 (RA_noid _ _) (.val _))) (Nat.le_of_ble_eq_true rfl) ?_
  have p1 := Parse_any s hBs
  have p2 := Parse_any t hBt
  rw [if_pos hs, hs] at p1
  rw [if_pos ht, ht, h0] at p2
  have o1 := WOf_ok b (valL s)
  have o2 := WOf_ok false 0
  rw [show sgn false 0 = 0 from rfl] at o2
  have hN := New_zero (sgn b (valL s))
  revert p1 o1 hN
  generalize sgn b (valL s) = z
  generalize valL s = x
  intro p1 o1 hN
  unfold RT RA WI natA at *
  repeat
    conv => whnf
    first
      | refine ⟨_, by assumption, ?_⟩
      | refine ⟨(Nat.le_of_ble_eq_true rfl), _, by assumption, ?_⟩
      | refine ⟨by kernel_rfl, ?_⟩
      | exact rfl
theorem SOf_ok (b : Bool) (s t : List Int) (hBs : Byt s) (hBt : Byt t) (ls : s.length ≤ 100) (lt : t.length ≤ 100) (hs : right s = true) (ht : right t = true) (h0 : valL t ≠ 0) :
    AC Try.prog 20 [RT b s t] (.pure (.tup [RA (qOf b s t).num (qOf b s t).den, .val (.bool (decide (RQ b s t)))])) := by
  rw [← RQ_back hBs hBt hs ht h0]
  refine AC.of_body TTok Try.func20 rfl (enter_of Try.func20 (by kernel_rfl) (by kernel_rfl)) (noid1 (RT_noid b s t)) (.tup _ (noid2 (RA_noid _ _) (.val _))) (Nat.le_of_ble_eq_true rfl) ?_
  have p1 := Parse_any s hBs
  have p2 := Parse_any t hBt
  rw [if_pos hs, hs] at p1
  rw [if_pos ht, ht] at p2
  have o1 := WOf_ok b (valL s)
  have o2 := WOf_ok false (valL t)
  rw [show sgn false (valL t) = (valL t : Int) from rfl] at o2
  have k1 := limbs_ten (valL_lt (right_dig hs).1)
  have k2 := limbs_ten (valL_lt (right_dig ht).1)
  have hN := New_ok (sgn b (valL s)) (valL t : Int) (by omega) (by rw [sgn_abs]; omega) (by rw [Int.natAbs_natCast]; omega)
  have hz : Sz (qOf b s t) 100 := Sz_divInt (by omega) (by rw [sgn_abs]; omega) (by rw [Int.natAbs_natCast]; omega)
  have := hz.1
  have := hz.2
  have hM := Num_ok (qOf b s t).num (qOf b s t).den (by omega) (by rw [dn_den]; omega)
  rw [dn_den] at hM
  change AC Try.prog 17 _ (.pure (.tup [RA (qOf b s t).num (qOf b s t).den, .val (.bool true)])) at hN
  revert p1 p2 o1 o2 hN hM
  generalize qOf b s t = q
  generalize sgn b (valL s) = z
  generalize (valL t : Int) = w
  generalize valL s = x
  generalize valL t = y
  intro p1 p2 o1 o2 hN hM
  unfold RT RA RN WI natA at *
  repeat
    conv => whnf
    first
      | refine ⟨_, by assumption, ?_⟩
      | refine ⟨(Nat.le_of_ble_eq_true rfl), _, by assumption, ?_⟩
      | refine ⟨by kernel_rfl, ?_⟩
      | exact rfl

end Go.Proofs.Ytabgankeaagibaa

/- Contracts of ratios: powers. -/
set_option linter.unusedVariables false
namespace Go.Proofs.Ytabgankeaagibaa
open Go Go.AL NM

/-- Has a power of a number above 0 at most so many limbs? -/
def fitsN (a k : Nat) (most : Int) : Prop := a = 1 ∨ ((limbs (a ^ k)).length : Int) ≤ most
instance (a k : Nat) (most : Int) : Decidable (fitsN a k most) := inferInstanceAs (Decidable (_ ∨ _))
/-- How often it is multiplied, and what. -/
def pk (n : Int) : Nat := if n < 0 then (if n < -9223372036854775807 then 9223372036854775807 else (-n).toNat) else n.toNat
def pb (q : Rat) (n : Int) : Rat := if n < 0 then 1 / q else q
def limQ (q : Rat) : Prop := q.den = 1 ∧ (q.num.natAbs = 0 ∨ q.num.natAbs = 1)
instance (q : Rat) : Decidable (limQ q) := inferInstanceAs (Decidable (_ ∧ _))
/-- A power, or none. -/
def powQ (q : Rat) (n most : Int) : Rat × Bool :=
  if n = 0 then (1, true)
  else if limQ q then (if q = 0 ∧ n < 0 then (0, false) else (if n % 2 = 0 then q * q else q, true))
  else if fitsN (pb q n).num.natAbs (pk n) most ∧ fitsN (pb q n).den (pk n) most then ((pb q n) ^ (pk n), true) else (0, false)

theorem and1 (n : Int) : IntKind.i64.wrap (((BitVec.ofInt 64 n &&& BitVec.ofInt 64 1).toNat : Nat) : Int) = n % 2 := by
  have h1 : (BitVec.ofInt 64 n &&& BitVec.ofInt 64 1).toNat = (n % 2).toNat := by
    rw [BitVec.toNat_and, show (BitVec.ofInt 64 1).toNat = 2 ^ 1 - 1 from rfl, Nat.and_two_pow_sub_one_eq_mod, BitVec.toNat_ofInt]
    omega
  rw [h1, IntWalk.i64_in _ (by omega)]
  omega
theorem and1e (n : Int) : (IntKind.i64.wrap (((BitVec.ofInt 64 n &&& BitVec.ofInt 64 1).toNat : Nat) : Int) == 0) = decide (n % 2 = 0) := by rw [and1]; exact beqD Iff.rfl
theorem and1o (n : Int) : (IntKind.i64.wrap (((BitVec.ofInt 64 n &&& BitVec.ofInt 64 1).toNat : Nat) : Int) == 1) = decide (n % 2 = 1) := by rw [and1]; exact beqD Iff.rfl

theorem pow_sgn (a : Int) (k : Nat) : a ^ k = sgn (decide (a < 0) && decide ((k : Int) % 2 = 1)) (a.natAbs ^ k) := by
  have hc : ((a.natAbs ^ k : Nat) : Int) = (a.natAbs : Int) ^ k := Int.natCast_pow _ _
  by_cases h : a < 0
  · rw [decide_eq_true h, Bool.true_and]
    obtain ⟨m, rfl⟩ : ∃ m : Nat, a = -(m : Int) := ⟨a.natAbs, by omega⟩
    rw [Int.natAbs_neg, Int.natAbs_natCast]
    clear hc h
    have key : ∀ k : Nat, (-(m : Int)) ^ k = if k % 2 = 1 then -((m : Int) ^ k) else (m : Int) ^ k := by
      intro k
      induction k with
      | zero => simp
      | succ k ih =>
        rw [Int.pow_succ, ih, Int.pow_succ]
        by_cases hk : k % 2 = 1
        · rw [if_pos hk, if_neg (by omega), Int.neg_mul_neg]
        · rw [if_neg hk, if_pos (by omega), Int.mul_neg]
    rw [key k]
    by_cases hk : k % 2 = 1
    · rw [if_pos hk, decide_eq_true (by omega)]
      show _ = -((m ^ k : Nat) : Int)
      rw [Int.natCast_pow]
    · rw [if_neg hk, decide_eq_false (by omega)]
      show _ = ((m ^ k : Nat) : Int)
      rw [Int.natCast_pow]
  · rw [decide_eq_false h, Bool.false_and]
    show _ = ((a.natAbs ^ k : Nat) : Int)
    rw [hc]
    congr 1
    omega

theorem NPow_fit (a : Nat) (n most : Int) (ha : 1 ≤ a) (hn : 0 < n) (hn63 : n < 9223372036854775808) (hm : most ≤ 200) (hl : (limbs a).length ≤ 400) (h : fitsN a n.toNat most) : AC Try.prog 88 [natA a, .val (.int .i64 n), .val (.int .i64 most)] (.pure (.tup [natA (a ^ n.toNat), .val (.bool true)])) := by
  by_cases h1 : a = 1
  · subst h1
    rw [Nat.one_pow]
    exact Pow_one 1 n most (.inr rfl)
  · exact Pow_gen a n most (by omega) hn hn63 hm hl _ (.tup _ (noid2 (natA_noid _) (.val _))) (fun h' => by rcases h with h | h <;> omega) (fun _ => rfl)
theorem NPow_not (a : Nat) (n most : Int) (ha : 1 ≤ a) (hn : 0 < n) (hn63 : n < 9223372036854775808) (hm : most ≤ 200) (hl : (limbs a).length ≤ 400) (h : ¬ fitsN a n.toNat most) : AC Try.prog 88 [natA a, .val (.int .i64 n), .val (.int .i64 most)] (.pure (.tup [.agg [.sl 0 [] true], .val (.bool false)])) := by
  have h1 : a ≠ 1 := fun e => h (.inl e)
  exact Pow_gen a n most (by omega) hn hn63 hm hl _ (.tup _ (noid2 (.agg _ (noid1 (.sl _ _ _ (fun r hr => (nomatch hr))))) (.val _))) (fun _ => rfl) (fun h' => absurd (.inr h') h)
theorem RPow_fit (a : Nat) (n most : Int) (ha : 1 ≤ a) (hn : 0 < n) (hn63 : n < 9223372036854775808) (hm : most ≤ 200) (hl : (limbs a).length ≤ 400) (h : fitsN a n.toNat most) : AC Try.prog 89 [.val (.string (decS a)), .val (.int .i64 n), .val (.int .i64 most)] (.pure (.tup [.val (.string (decS (a ^ n.toNat))), .val (.bool true)])) := by
  by_cases h1 : a = 1
  · subst h1
    rw [Nat.one_pow]
    exact RPow_one 1 n most (.inr rfl)
  · exact RPow_gen a n most (by omega) hn hn63 hm hl _ (.tup _ (noid2 (.val _) (.val _))) (fun h' => by rcases h with h | h <;> omega) (fun _ => rfl)
theorem RPow_not (a : Nat) (n most : Int) (ha : 1 ≤ a) (hn : 0 < n) (hn63 : n < 9223372036854775808) (hm : most ≤ 200) (hl : (limbs a).length ≤ 400) (h : ¬ fitsN a n.toNat most) : AC Try.prog 89 [.val (.string (decS a)), .val (.int .i64 n), .val (.int .i64 most)] (.pure (.tup [.val (.string (decS 0)), .val (.bool false)])) := by
  have h1 : a ≠ 1 := fun e => h (.inl e)
  exact RPow_gen a n most (by omega) hn hn63 hm hl _ (.tup _ (noid2 (.val _) (.val _))) (fun _ => rfl) (fun h' => absurd (.inr h') h)

/-- A power of so many factors has too many limbs. -/
theorem fitsN_big {a k : Nat} {most : Int} (ha : 1 ≤ a) (hk : 6400 ≤ k) (hm : most ≤ 200) (h : fitsN a k most) : a = 1 := by
  rcases h with h | h
  · exact h
  · rcases Nat.lt_or_ge a 2 with h2 | h2
    · omega
    · exfalso
      have h3 := val_lt (limbs_lim (a ^ k))
      rw [val_limbs, pow32] at h3
      obtain ⟨B, hB⟩ : ∃ B, B = 6400 := ⟨_, rfl⟩
      have h4 : 2 ^ (32 * (limbs (a ^ k)).length) ≤ 2 ^ B := Nat.pow_le_pow_right (by decide) (by omega)
      have h5 : 2 ^ B ≤ 2 ^ k := Nat.pow_le_pow_right (by decide) (by omega)
      have h6 : 2 ^ k ≤ a ^ k := Nat.pow_le_pow_left h2 k
      exact absurd (Nat.lt_of_lt_of_le h3 (Nat.le_trans h4 (Nat.le_trans h5 h6))) (Nat.lt_irrefl _)

end Go.Proofs.Ytabgankeaagibaa

/- Contracts of ratios: the program's powers. -/
set_option linter.unusedVariables false
namespace Go.Proofs.Ytabgankeaagibaa
open Go Go.AL NM

theorem lim_num {q : Rat} (h : ¬ limQ q) : q ≠ 0 := fun e => h (by rw [e]; exact ⟨rfl, .inl rfl⟩)
theorem beq_ne0 {n : Int} (h : n ≠ 0) : (n == 0) = false := beq_false_of_ne h
theorem pk_pos {n : Int} (h : 0 < n) : (pk n : Int) = n := by unfold pk; rw [if_neg (by omega)]; omega
theorem pk_neg {n : Int} (h : n < 0) (h1 : -9223372036854775808 ≤ n) : IntKind.i64.wrap (0 - (if -9223372036854775807 > n then -9223372036854775807 else n)) = (pk n : Int) := by
  unfold pk
  rw [if_pos h]
  by_cases h2 : n < -9223372036854775807
  · rw [if_pos h2, if_pos (by omega)]; rfl
  · rw [if_neg h2, if_neg (by omega), IntWalk.i64_in _ (by omega)]; omega
theorem pk_bd {n : Int} (h0 : n ≠ 0) (h1 : -9223372036854775808 ≤ n ∧ n < 9223372036854775808) : 0 < (pk n : Int) ∧ (pk n : Int) < 9223372036854775808 := by
  unfold pk
  split
  · split <;> omega
  · omega
theorem pb_ne {q : Rat} (n : Int) (h : ¬ limQ q) : pb q n ≠ 0 := by
  unfold pb
  have hq := lim_num h
  split
  · intro e
    have := Rat.div_mul_cancel (a := 1) hq
    rw [e, Rat.zero_mul] at this
    exact absurd this (by decide)
  · exact hq
theorem pb_sz {q : Rat} {k : Nat} (n : Int) (h : ¬ limQ q) (hk : Sz q k) : Sz (pb q n) (k + 1) := by
  unfold pb
  split
  · exact (Sz_div (lim_num h) (i := 1) (j := k) ⟨by show (limbs 1).length ≤ 1; rw [limbs_1]; decide, by show (limbs 1).length ≤ 1; rw [limbs_1]; decide⟩ hk).mono (by omega)
  · exact hk.mono (by omega)

theorem QPow_zero (q : Rat) (i : Nat) (most : Int) : AC Try.prog 26 [RA q.num i, .val (.int .i64 0), .val (.int .i64 most)] (.pure (.tup [RA 1 1, .val (.bool true)])) := by
  refine AC.of_body TTok Try.func26 rfl (enter_of Try.func26 (by kernel_rfl) (by kernel_rfl)) (noid3 (RA_noid _ _) (.val _) (.val _)) (.tup _ (noid2 (RA_noid _ _) (.val _))) (Nat.le_of_ble_eq_true rfl) ?_
  have hF := RatFrom_ok 1 (by decide)
  unfold RA at *
  repeat
    conv => whnf
    first
      | refine ⟨_, by assumption, ?_⟩
      | refine ⟨(Nat.le_of_ble_eq_true rfl), _, by assumption, ?_⟩
      | refine ⟨by kernel_rfl, ?_⟩
      | exact rfl
theorem QPow_none (q : Rat) (i : Nat) (n most : Int) (hi : dn i = q.den) (hq : q = 0) (h0 : n < 0) : AC Try.prog 26 [RA q.num i, .val (.int .i64 n), .val (.int .i64 most)] (.pure (.tup [RA 0 0, .val (.bool false)])) := by
  refine RZ_res ?_
  refine AC.of_body TTok Try.func26 rfl (enter_of Try.func26 (by kernel_rfl) (by kernel_rfl)) (noid3 (RA_noid _ _) (.val _) (.val _)) (.tup _ (noid2 RZ_noid (.val _))) (Nat.le_of_ble_eq_true rfl) ?_
  have hL := Limited_ok q.num i
  have hS := RaSign_ok q.num i
  rw [decide_eq_true (show dn i = 1 ∧ (q.num.natAbs = 0 ∨ q.num.natAbs = 1) by rw [hi, hq]; exact ⟨rfl, .inl rfl⟩)] at hL
  rw [show sigW q.num = 0 by rw [hq]; rfl] at hS
  have e0 := beq_ne0 (show n ≠ 0 by omega)
  have eN : decide (n < 0) = true := decide_eq_true h0
  unfold RA at *
  conv => whnf
  refine caseb (fun h => Bool.noConfusion ((e0).symm.trans h)) (fun _ => ?_)
  conv => whnf
  refine ⟨_, hL, ?_⟩
  conv => whnf
  refine ⟨_, hS, ?_⟩
  conv => whnf
  refine caseb (fun _ => ?_) (fun h => Bool.noConfusion ((eN).symm.trans h))
  repeat
    conv => whnf
    first
      | refine ⟨_, by assumption, ?_⟩
      | refine ⟨(Nat.le_of_ble_eq_true rfl), _, by assumption, ?_⟩
      | refine ⟨by kernel_rfl, ?_⟩
      | exact rfl
theorem QPow_even (q : Rat) (i : Nat) (n most : Int) (hi : dn i = q.den) (lq : Sz q 300) (hl : limQ q) (h0 : n ≠ 0) (hz : ¬ (q = 0 ∧ n < 0)) (he : n % 2 = 0) : AC Try.prog 26 [RA q.num i, .val (.int .i64 n), .val (.int .i64 most)] (.pure (.tup [RA (q * q).num (q * q).den, .val (.bool true)])) := by
  refine AC.of_body TTok Try.func26 rfl (enter_of Try.func26 (by kernel_rfl) (by kernel_rfl)) (noid3 (RA_noid _ _) (.val _) (.val _)) (.tup _ (noid2 (RA_noid _ _) (.val _))) (Nat.le_of_ble_eq_true rfl) ?_
  have hL := Limited_ok q.num i
  have hS := RaSign_ok q.num i
  rw [hi, decide_eq_true (show q.den = 1 ∧ (q.num.natAbs = 0 ∨ q.num.natAbs = 1) from hl)] at hL
  have e0 := beq_ne0 h0
  have a0 := and1e n
  rw [decide_eq_true he] at a0
  have hT := QTimes1 q q i i hi hi (lq.mono (by decide)) (lq.mono (by decide))
  unfold rowR at hT
  simp only at hT
  by_cases hq : q = 0
  · have eN : decide (n < 0) = false := decide_eq_false (fun h => hz ⟨hq, h⟩)
    rw [show sigW q.num = 0 by rw [hq]; rfl] at hS
    revert hT
    generalize q * q = r
    intro hT
    unfold RA at *
    conv => whnf
    refine caseb (fun h => Bool.noConfusion ((e0).symm.trans h)) (fun _ => ?_)
    conv => whnf
    refine ⟨_, hL, ?_⟩
    conv => whnf
    refine ⟨_, hS, ?_⟩
    conv => whnf
    refine caseb (fun h => Bool.noConfusion ((eN).symm.trans h)) (fun _ => ?_)
    conv => whnf
    refine caseb (fun _ => ?_) (fun h => Bool.noConfusion ((a0).symm.trans h))
    repeat
      conv => whnf
      first
        | refine ⟨_, by assumption, ?_⟩
        | refine ⟨(Nat.le_of_ble_eq_true rfl), _, by assumption, ?_⟩
        | refine ⟨by kernel_rfl, ?_⟩
        | exact rfl
  · have eS : (sigW q.num == 0) = false := beq_false_of_ne (by unfold sigW; rw [if_neg (num_ne hq)]; split <;> decide)
    revert hT hS eS
    generalize q * q = r
    generalize sigW q.num = s
    intro hS hT eS
    unfold RA at *
    conv => whnf
    refine caseb (fun h => Bool.noConfusion ((e0).symm.trans h)) (fun _ => ?_)
    conv => whnf
    refine ⟨_, hL, ?_⟩
    conv => whnf
    refine ⟨_, hS, ?_⟩
    conv => whnf
    refine caseb (fun h => Bool.noConfusion ((eS).symm.trans h)) (fun _ => ?_)
    conv => whnf
    refine caseb (fun _ => ?_) (fun h => Bool.noConfusion ((a0).symm.trans h))
    repeat
      conv => whnf
      first
        | refine ⟨_, by assumption, ?_⟩
        | refine ⟨(Nat.le_of_ble_eq_true rfl), _, by assumption, ?_⟩
        | refine ⟨by kernel_rfl, ?_⟩
        | exact rfl
theorem QPow_odd (q : Rat) (i : Nat) (n most : Int) (hi : dn i = q.den) (hl : limQ q) (h0 : n ≠ 0) (hz : ¬ (q = 0 ∧ n < 0)) (he : ¬ n % 2 = 0) : AC Try.prog 26 [RA q.num i, .val (.int .i64 n), .val (.int .i64 most)] (.pure (.tup [RA q.num i, .val (.bool true)])) := by
  refine AC.of_body TTok Try.func26 rfl (enter_of Try.func26 (by kernel_rfl) (by kernel_rfl)) (noid3 (RA_noid _ _) (.val _) (.val _)) (.tup _ (noid2 (RA_noid _ _) (.val _))) (Nat.le_of_ble_eq_true rfl) ?_
  have hL := Limited_ok q.num i
  have hS := RaSign_ok q.num i
  rw [hi, decide_eq_true (show q.den = 1 ∧ (q.num.natAbs = 0 ∨ q.num.natAbs = 1) from hl)] at hL
  have e0 := beq_ne0 h0
  have a0 := and1e n
  rw [decide_eq_false he] at a0
  by_cases hq : q = 0
  · have eN : decide (n < 0) = false := decide_eq_false (fun h => hz ⟨hq, h⟩)
    rw [show sigW q.num = 0 by rw [hq]; rfl] at hS
    unfold RA at *
    conv => whnf
    refine caseb (fun h => Bool.noConfusion ((e0).symm.trans h)) (fun _ => ?_)
    conv => whnf
    refine ⟨_, hL, ?_⟩
    conv => whnf
    refine ⟨_, hS, ?_⟩
    conv => whnf
    refine caseb (fun h => Bool.noConfusion ((eN).symm.trans h)) (fun _ => ?_)
    conv => whnf
    refine caseb (fun h => Bool.noConfusion ((a0).symm.trans h)) (fun _ => ?_)
    repeat
      conv => whnf
      first
        | refine ⟨_, by assumption, ?_⟩
        | refine ⟨(Nat.le_of_ble_eq_true rfl), _, by assumption, ?_⟩
        | refine ⟨by kernel_rfl, ?_⟩
        | exact rfl
  · have eS : (sigW q.num == 0) = false := beq_false_of_ne (by unfold sigW; rw [if_neg (num_ne hq)]; split <;> decide)
    revert hS eS
    generalize sigW q.num = s
    intro hS eS
    unfold RA at *
    conv => whnf
    refine caseb (fun h => Bool.noConfusion ((e0).symm.trans h)) (fun _ => ?_)
    conv => whnf
    refine ⟨_, hL, ?_⟩
    conv => whnf
    refine ⟨_, hS, ?_⟩
    conv => whnf
    refine caseb (fun h => Bool.noConfusion ((eS).symm.trans h)) (fun _ => ?_)
    conv => whnf
    refine caseb (fun h => Bool.noConfusion ((a0).symm.trans h)) (fun _ => ?_)
    repeat
      conv => whnf
      first
        | refine ⟨_, by assumption, ?_⟩
        | refine ⟨(Nat.le_of_ble_eq_true rfl), _, by assumption, ?_⟩
        | refine ⟨by kernel_rfl, ?_⟩
        | exact rfl

theorem QPow_fit (q : Rat) (i : Nat) (n most : Int) (hi : dn i = q.den) (hn : -9223372036854775808 ≤ n ∧ n < 9223372036854775808) (hm : most ≤ 200) (lq : Sz q 300) (hl : ¬ limQ q) (h0 : n ≠ 0)
    (f1 : fitsN (pb q n).num.natAbs (pk n) most) (f2 : fitsN (pb q n).den (pk n) most) : AC Try.prog 26 [RA q.num i, .val (.int .i64 n), .val (.int .i64 most)] (.pure (.tup [RA (pb q n ^ pk n).num (pb q n ^ pk n).den, .val (.bool true)])) := by
  refine AC.of_body TTok Try.func26 rfl (enter_of Try.func26 (by kernel_rfl) (by kernel_rfl)) (noid3 (RA_noid _ _) (.val _) (.val _)) (.tup _ (noid2 (RA_noid _ _) (.val _))) (Nat.le_of_ble_eq_true rfl) ?_
  have hL := Limited_ok q.num i
  rw [hi, decide_eq_false (show ¬ (q.den = 1 ∧ (q.num.natAbs = 0 ∨ q.num.natAbs = 1)) from hl)] at hL
  have e0 := beq_ne0 h0
  have hF := RatFrom_ok 1 (by decide)
  have hB := By_ok 1 q 1 i rfl hi ⟨by show (limbs 1).length ≤ 1000; rw [limbs_1]; decide, by show (limbs 1).length ≤ 1000; rw [limbs_1]; decide⟩ (lq.mono (by decide)) (lim_num hl)
  rw [Rat.one_num] at hB
  have sp := pb_sz n hl lq
  have np := num_ne (pb_ne n hl)
  obtain ⟨k1, k2⟩ := pk_bd h0 hn
  obtain ⟨p, hp⟩ : ∃ p, p = pb q n := ⟨_, rfl⟩
  rw [← hp] at sp np f1 f2 ⊢
  have := sp.1; have := sp.2; have := p.den_nz
  have P1 := NPow_fit p.num.natAbs (pk n) most (by omega) k1 k2 hm (by omega) (by rw [Int.toNat_natCast]; exact f1)
  have P2 := NPow_fit p.den (pk n) most (by omega) k1 k2 hm (by omega) (by rw [Int.toNat_natCast]; exact f2)
  rw [Int.toNat_natCast] at P1 P2
  have hO1 := WOf_ok (decide ((pk n : Int) % 2 = 1)) (p.num.natAbs ^ pk n)
  have hO2 := WOf_ok false (p.num.natAbs ^ pk n)
  have hnum : (p ^ pk n).num = sgn (decide (p.num < 0) && decide ((pk n : Int) % 2 = 1)) (p.num.natAbs ^ pk n) := by rw [Rat.num_pow]; exact pow_sgn _ _
  rw [← and1o (pk n)] at hO1 hnum
  rw [hnum, Rat.den_pow]
  have hNeg := NegW_ok p.num
  clear hnum sp np f1 f2
  revert P1 P2 hO1 hO2
  generalize p.num.natAbs ^ pk n = X
  generalize p.den ^ pk n = Y
  intro P1 P2 hO1 hO2
  rcases Int.lt_or_le n 0 with hs | hs
  · have hE := pk_neg hs hn.1
    have eN : decide (n < 0) = true := decide_eq_true hs
    rw [← show p = 1 / q by rw [hp]; unfold pb; rw [if_pos hs]] at hB
    have hD := down_ok p.num p.den
    rw [dn_den] at hD
    rw [← hE] at P1 P2 hO1 ⊢
    clear hE hp k1 k2
    unfold RA WI natA at *
    generalize decide (p.num < 0) = s at *
    cases s
    · conv => whnf
      refine caseb (fun h => Bool.noConfusion ((e0).symm.trans h)) (fun _ => ?_)
      conv => whnf
      refine ⟨_, hL, ?_⟩
      conv => whnf
      refine caseb (fun _ => ?_) (fun h => Bool.noConfusion ((eN).symm.trans h))
      repeat
        conv => whnf
        first
          | refine ⟨_, by assumption, ?_⟩
          | refine ⟨(Nat.le_of_ble_eq_true rfl), _, by assumption, ?_⟩
          | refine ⟨by kernel_rfl, ?_⟩
          | exact rfl
    · conv => whnf
      refine caseb (fun h => Bool.noConfusion ((e0).symm.trans h)) (fun _ => ?_)
      conv => whnf
      refine ⟨_, hL, ?_⟩
      conv => whnf
      refine caseb (fun _ => ?_) (fun h => Bool.noConfusion ((eN).symm.trans h))
      repeat
        conv => whnf
        first
          | refine ⟨_, by assumption, ?_⟩
          | refine ⟨(Nat.le_of_ble_eq_true rfl), _, by assumption, ?_⟩
          | refine ⟨by kernel_rfl, ?_⟩
          | exact rfl
  · have hE := pk_pos (show 0 < n by omega)
    have eN : decide (n < 0) = false := decide_eq_false (by omega)
    have hpe : p = q := by rw [hp]; unfold pb; rw [if_neg (by omega)]
    clear hB hF hp
    subst hpe
    have hD := down_ok p.num i
    rw [hi] at hD
    rw [hE] at P1 P2 hO1 ⊢
    clear hE k1 k2
    unfold RA WI natA at *
    generalize decide (p.num < 0) = s at *
    cases s
    · conv => whnf
      refine caseb (fun h => Bool.noConfusion ((e0).symm.trans h)) (fun _ => ?_)
      conv => whnf
      refine ⟨_, hL, ?_⟩
      conv => whnf
      refine caseb (fun h => Bool.noConfusion ((eN).symm.trans h)) (fun _ => ?_)
      repeat
        conv => whnf
        first
          | refine ⟨_, by assumption, ?_⟩
          | refine ⟨(Nat.le_of_ble_eq_true rfl), _, by assumption, ?_⟩
          | refine ⟨by kernel_rfl, ?_⟩
          | exact rfl
    · conv => whnf
      refine caseb (fun h => Bool.noConfusion ((e0).symm.trans h)) (fun _ => ?_)
      conv => whnf
      refine ⟨_, hL, ?_⟩
      conv => whnf
      refine caseb (fun h => Bool.noConfusion ((eN).symm.trans h)) (fun _ => ?_)
      repeat
        conv => whnf
        first
          | refine ⟨_, by assumption, ?_⟩
          | refine ⟨(Nat.le_of_ble_eq_true rfl), _, by assumption, ?_⟩
          | refine ⟨by kernel_rfl, ?_⟩
          | exact rfl

theorem QPow_not (q : Rat) (i : Nat) (n most : Int) (hi : dn i = q.den) (hn : -9223372036854775808 ≤ n ∧ n < 9223372036854775808) (hm : most ≤ 200) (lq : Sz q 300) (hl : ¬ limQ q) (h0 : n ≠ 0)
    (hf : ¬ (fitsN (pb q n).num.natAbs (pk n) most ∧ fitsN (pb q n).den (pk n) most)) : AC Try.prog 26 [RA q.num i, .val (.int .i64 n), .val (.int .i64 most)] (.pure (.tup [RA 0 0, .val (.bool false)])) := by
  refine RZ_res ?_
  refine AC.of_body TTok Try.func26 rfl (enter_of Try.func26 (by kernel_rfl) (by kernel_rfl)) (noid3 (RA_noid _ _) (.val _) (.val _)) (.tup _ (noid2 RZ_noid (.val _))) (Nat.le_of_ble_eq_true rfl) ?_
  have hL := Limited_ok q.num i
  rw [hi, decide_eq_false (show ¬ (q.den = 1 ∧ (q.num.natAbs = 0 ∨ q.num.natAbs = 1)) from hl)] at hL
  have e0 := beq_ne0 h0
  have hF := RatFrom_ok 1 (by decide)
  have hB := By_ok 1 q 1 i rfl hi ⟨by show (limbs 1).length ≤ 1000; rw [limbs_1]; decide, by show (limbs 1).length ≤ 1000; rw [limbs_1]; decide⟩ (lq.mono (by decide)) (lim_num hl)
  rw [Rat.one_num] at hB
  have sp := pb_sz n hl lq
  have np := num_ne (pb_ne n hl)
  obtain ⟨k1, k2⟩ := pk_bd h0 hn
  obtain ⟨p, hp⟩ : ∃ p, p = pb q n := ⟨_, rfl⟩
  rw [← hp] at sp np hf
  have := sp.1; have := sp.2; have := p.den_nz
  have P : (∃ X, AC Try.prog 88 [natA p.num.natAbs, .val (.int .i64 (pk n)), .val (.int .i64 most)] (.pure (.tup [natA X, .val (.bool true)])) ∧ AC Try.prog 88 [natA p.den, .val (.int .i64 (pk n)), .val (.int .i64 most)] (.pure (.tup [.agg [.sl 0 [] true], .val (.bool false)])))
      ∨ AC Try.prog 88 [natA p.num.natAbs, .val (.int .i64 (pk n)), .val (.int .i64 most)] (.pure (.tup [.agg [.sl 0 [] true], .val (.bool false)])) ∧ ((∃ Y, AC Try.prog 88 [natA p.den, .val (.int .i64 (pk n)), .val (.int .i64 most)] (.pure (.tup [natA Y, .val (.bool true)]))) ∨ AC Try.prog 88 [natA p.den, .val (.int .i64 (pk n)), .val (.int .i64 most)] (.pure (.tup [.agg [.sl 0 [] true], .val (.bool false)]))) := by
    by_cases f1 : fitsN p.num.natAbs (pk n) most
    · exact .inl ⟨_, NPow_fit p.num.natAbs (pk n) most (by omega) k1 k2 hm (by omega) (by rw [Int.toNat_natCast]; exact f1), NPow_not p.den (pk n) most (by omega) k1 k2 hm (by omega) (by rw [Int.toNat_natCast]; exact fun f2 => hf ⟨f1, f2⟩)⟩
    · refine .inr ⟨NPow_not p.num.natAbs (pk n) most (by omega) k1 k2 hm (by omega) (by rw [Int.toNat_natCast]; exact f1), ?_⟩
      by_cases f2 : fitsN p.den (pk n) most
      · exact .inl ⟨_, NPow_fit p.den (pk n) most (by omega) k1 k2 hm (by omega) (by rw [Int.toNat_natCast]; exact f2)⟩
      · exact .inr (NPow_not p.den (pk n) most (by omega) k1 k2 hm (by omega) (by rw [Int.toNat_natCast]; exact f2))
  clear sp np hf
  rcases Int.lt_or_le n 0 with hs | hs
  · have hE := pk_neg hs hn.1
    have eN : decide (n < 0) = true := decide_eq_true hs
    rw [← show p = 1 / q by rw [hp]; unfold pb; rw [if_pos hs]] at hB
    have hD := down_ok p.num p.den
    rw [dn_den] at hD
    rw [← hE] at P
    clear hE hp k1 k2
    unfold RA RZ natA at *
    rcases P with ⟨X, P1, P2⟩ | ⟨P1, ⟨Y, P2⟩ | P2⟩
    · conv => whnf
      refine caseb (fun h => Bool.noConfusion ((e0).symm.trans h)) (fun _ => ?_)
      conv => whnf
      refine ⟨_, hL, ?_⟩
      conv => whnf
      refine caseb (fun _ => ?_) (fun h => Bool.noConfusion ((eN).symm.trans h))
      repeat
        conv => whnf
        first
          | refine ⟨_, by assumption, ?_⟩
          | refine ⟨(Nat.le_of_ble_eq_true rfl), _, by assumption, ?_⟩
          | refine ⟨by kernel_rfl, ?_⟩
          | exact rfl
    · conv => whnf
      refine caseb (fun h => Bool.noConfusion ((e0).symm.trans h)) (fun _ => ?_)
      conv => whnf
      refine ⟨_, hL, ?_⟩
      conv => whnf
      refine caseb (fun _ => ?_) (fun h => Bool.noConfusion ((eN).symm.trans h))
      repeat
        conv => whnf
        first
          | refine ⟨_, by assumption, ?_⟩
          | refine ⟨(Nat.le_of_ble_eq_true rfl), _, by assumption, ?_⟩
          | refine ⟨by kernel_rfl, ?_⟩
          | exact rfl
    · conv => whnf
      refine caseb (fun h => Bool.noConfusion ((e0).symm.trans h)) (fun _ => ?_)
      conv => whnf
      refine ⟨_, hL, ?_⟩
      conv => whnf
      refine caseb (fun _ => ?_) (fun h => Bool.noConfusion ((eN).symm.trans h))
      repeat
        conv => whnf
        first
          | refine ⟨_, by assumption, ?_⟩
          | refine ⟨(Nat.le_of_ble_eq_true rfl), _, by assumption, ?_⟩
          | refine ⟨by kernel_rfl, ?_⟩
          | exact rfl
  · have hE := pk_pos (show 0 < n by omega)
    have eN : decide (n < 0) = false := decide_eq_false (by omega)
    have hpe : p = q := by rw [hp]; unfold pb; rw [if_neg (by omega)]
    clear hB hF hp
    subst hpe
    have hD := down_ok p.num i
    rw [hi] at hD
    rw [hE] at P
    clear hE k1 k2
    unfold RA RZ natA at *
    rcases P with ⟨X, P1, P2⟩ | ⟨P1, ⟨Y, P2⟩ | P2⟩
    · conv => whnf
      refine caseb (fun h => Bool.noConfusion ((e0).symm.trans h)) (fun _ => ?_)
      conv => whnf
      refine ⟨_, hL, ?_⟩
      conv => whnf
      refine caseb (fun h => Bool.noConfusion ((eN).symm.trans h)) (fun _ => ?_)
      repeat
        conv => whnf
        first
          | refine ⟨_, by assumption, ?_⟩
          | refine ⟨(Nat.le_of_ble_eq_true rfl), _, by assumption, ?_⟩
          | refine ⟨by kernel_rfl, ?_⟩
          | exact rfl
    · conv => whnf
      refine caseb (fun h => Bool.noConfusion ((e0).symm.trans h)) (fun _ => ?_)
      conv => whnf
      refine ⟨_, hL, ?_⟩
      conv => whnf
      refine caseb (fun h => Bool.noConfusion ((eN).symm.trans h)) (fun _ => ?_)
      repeat
        conv => whnf
        first
          | refine ⟨_, by assumption, ?_⟩
          | refine ⟨(Nat.le_of_ble_eq_true rfl), _, by assumption, ?_⟩
          | refine ⟨by kernel_rfl, ?_⟩
          | exact rfl
    · conv => whnf
      refine caseb (fun h => Bool.noConfusion ((e0).symm.trans h)) (fun _ => ?_)
      conv => whnf
      refine ⟨_, hL, ?_⟩
      conv => whnf
      refine caseb (fun h => Bool.noConfusion ((eN).symm.trans h)) (fun _ => ?_)
      repeat
        conv => whnf
        first
          | refine ⟨_, by assumption, ?_⟩
          | refine ⟨(Nat.le_of_ble_eq_true rfl), _, by assumption, ?_⟩
          | refine ⟨by kernel_rfl, ?_⟩
          | exact rfl

end Go.Proofs.Ytabgankeaagibaa

/- Contracts of the document's ratios: powers. -/
set_option linter.unusedVariables false
namespace Go.Proofs.Ytabgankeaagibaa
open Go Go.AL NM

theorem inv_parts {q : Rat} (h : q ≠ 0) : (1 / q).num.natAbs = q.den ∧ (1 / q).den = q.num.natAbs := by
  rw [Rat.div_def, Rat.one_mul, Rat.num_inv, Rat.den_inv, if_neg (num_ne h)]
  refine ⟨?_, rfl⟩
  rw [Int.natAbs_mul, Int.natAbs_natCast]
  have : q.num.sign.natAbs = 1 := by
    rcases Int.lt_trichotomy q.num 0 with h' | h' | h'
    · rw [Int.sign_eq_neg_one_of_neg h']; rfl
    · exact absurd h' (num_ne h)
    · rw [Int.sign_eq_one_of_pos h']; rfl
  rw [this, Nat.one_mul]
theorem fit_par {q : Rat} {n most : Int} (hl : ¬ limQ q) (h0 : n ≠ 0) (hn : -9223372036854775808 ≤ n ∧ n < 9223372036854775808) (hm : most ≤ 200) (f1 : fitsN (pb q n).num.natAbs (pk n) most) (f2 : fitsN (pb q n).den (pk n) most) :
    ((pk n : Int) % 2 = 1) ↔ n.tmod 2 ≠ 0 := by
  have e2 : n.tmod 2 ≠ 0 ↔ n % 2 = 1 := by
    rcases Int.lt_or_le n 0 with h | h
    · obtain ⟨m, rfl⟩ : ∃ m : Nat, n = -(m : Int) := ⟨n.natAbs, by omega⟩
      rw [Int.neg_tmod, Int.tmod_eq_emod_of_nonneg (by omega)]
      omega
    · rw [Int.tmod_eq_emod_of_nonneg h]; omega
  rw [e2]
  by_cases hb : n < -9223372036854775807
  · exfalso
    have hp : pk n = 9223372036854775807 := by unfold pk; rw [if_pos (by omega), if_pos hb]
    have hpb : pb q n = 1 / q := by unfold pb; rw [if_pos (by omega)]
    have np := num_ne (pb_ne n hl)
    have g1 := fitsN_big (by omega) (by omega) hm f1
    have g2 := fitsN_big (by have := (pb q n).den_nz; omega) (by omega) hm f2
    rw [hpb] at g1 g2
    obtain ⟨i1, i2⟩ := inv_parts (lim_num hl)
    exact hl ⟨i1.symm.trans g1, .inr (i2.symm.trans g2)⟩
  · unfold pk
    split
    · omega
    · omega
theorem tmod_b (n : Int) : ((n.tmod 2) != 0) = decide (n.tmod 2 ≠ 0) := bneD Iff.rfl

theorem SPow_zero (q : Rat) (most : Int) : AC Try.prog 27 [RN q.num q.den, .val (.int .i64 0), .val (.int .i64 most)] (.pure (.tup [RN 1 1, .val (.bool true)])) := by
  refine AC.of_body TTok Try.func27 rfl (enter_of Try.func27 (by kernel_rfl) (by kernel_rfl)) (noid3 (RN_noid _ _) (.val _) (.val _)) (.tup _ (noid2 (RN_noid _ _) (.val _))) (Nat.le_of_ble_eq_true rfl) ?_
  have hF := SFrom_ok 1 (by decide)
  unfold RN at *
  repeat
    conv => whnf
    first
      | refine ⟨_, by assumption, ?_⟩
      | refine ⟨(Nat.le_of_ble_eq_true rfl), _, by assumption, ?_⟩
      | refine ⟨by kernel_rfl, ?_⟩
      | exact rfl
      | refine ⟨by decide, ?_⟩
theorem SPow_none (q : Rat) (n most : Int) (hq : q = 0) (h0 : n < 0) : AC Try.prog 27 [RN q.num q.den, .val (.int .i64 n), .val (.int .i64 most)] (.pure (.tup [RN 0 1, .val (.bool false)])) := by
  refine AC.of_body TTok Try.func27 rfl (enter_of Try.func27 (by kernel_rfl) (by kernel_rfl)) (noid3 (RN_noid _ _) (.val _) (.val _)) (.tup _ (noid2 (RN_noid _ _) (.val _))) (Nat.le_of_ble_eq_true rfl) ?_
  have hZ := SZero_ok
  have i0 := is0 q.num.natAbs
  rw [decide_eq_true (by rw [hq]; rfl)] at i0
  have e0 := beq_ne0 (show n ≠ 0 by omega)
  have eN : decide (n < 0) = true := decide_eq_true h0
  unfold RN at *
  conv => whnf
  refine caseb (fun h => Bool.noConfusion ((e0).symm.trans h)) (fun _ => ?_)
  conv => whnf
  refine caseb (fun _ => ?_) (fun h => Bool.noConfusion ((i0).symm.trans h))
  conv => whnf
  refine caseb (fun _ => ?_) (fun h => Bool.noConfusion ((eN).symm.trans h))
  repeat
    conv => whnf
    first
      | refine ⟨_, by assumption, ?_⟩
      | refine ⟨(Nat.le_of_ble_eq_true rfl), _, by assumption, ?_⟩
      | refine ⟨by kernel_rfl, ?_⟩
      | exact rfl
      | refine ⟨by decide, ?_⟩
theorem lim_sq {q : Rat} (hl : limQ q) : (q * q).num = (q.num.natAbs : Int) ∧ (q * q).den = 1 := by
  obtain ⟨h1, h2⟩ := hl
  obtain ⟨n, rfl⟩ : ∃ n : Int, q = (n : Rat) := ⟨q.num, Rat.ext rfl h1⟩
  have hn : (n : Rat).num = n := rfl
  rw [hn] at h2 ⊢
  have : n = 0 ∨ n = 1 ∨ n = -1 := by omega
  rw [← Rat.intCast_mul]
  rcases this with rfl | rfl | rfl
  · exact ⟨rfl, rfl⟩
  · exact ⟨rfl, rfl⟩
  · exact ⟨rfl, rfl⟩
theorem SPow_lim (q : Rat) (n most : Int) (hl : limQ q) (h0 : n ≠ 0) (hz : ¬ (q = 0 ∧ n < 0)) : AC Try.prog 27 [RN q.num q.den, .val (.int .i64 n), .val (.int .i64 most)] (.pure (.tup [RN (if n % 2 = 0 then q * q else q).num (if n % 2 = 0 then q * q else q).den, .val (.bool true)])) := by
  refine AC.of_body TTok Try.func27 rfl (enter_of Try.func27 (by kernel_rfl) (by kernel_rfl)) (noid3 (RN_noid _ _) (.val _) (.val _)) (.tup _ (noid2 (RN_noid _ _) (.val _))) (Nat.le_of_ble_eq_true rfl) ?_
  have hL := SLimited_ok q.num q.den
  rw [decide_eq_true (show q.den = 1 ∧ (q.num.natAbs = 0 ∨ q.num.natAbs = 1) from hl)] at hL
  have i0 := is0 q.num.natAbs
  have e0 := beq_ne0 h0
  have e2 : n.tmod 2 ≠ 0 ↔ ¬ n % 2 = 0 := by
    rcases Int.lt_or_le n 0 with h | h
    · obtain ⟨m, rfl⟩ : ∃ m : Nat, n = -(m : Int) := ⟨n.natAbs, by omega⟩
      rw [Int.neg_tmod, Int.tmod_eq_emod_of_nonneg (by omega)]
      omega
    · rw [Int.tmod_eq_emod_of_nonneg h]
  have e3 := tmod_b n
  rw [decide_eq_decide.2 e2] at e3
  have hres : RN (if n % 2 = 0 then q * q else q).num (if n % 2 = 0 then q * q else q).den = .agg [.val (.bool (decide (q.num < 0) && ((n.tmod 2) != 0))), .val (.string (decS q.num.natAbs)), .val (.string { data := #[49] })] := by
    rw [e3]
    obtain ⟨s1, s2⟩ := lim_sq hl
    unfold RN
    by_cases he : n % 2 = 0
    · rw [if_pos he, s1, s2, decS_one, decide_eq_false (show ¬ ((q.num.natAbs : Int)) < 0 by omega), decide_eq_false (show ¬ ¬ n % 2 = 0 from fun h => h he), Bool.and_false, Int.natAbs_natCast]
    · rw [if_neg he, hl.1, decS_one, decide_eq_true he, Bool.and_true]
  rw [hres]
  clear e2 e3 hres
  by_cases hq : q = 0
  · have eN : decide (n < 0) = false := decide_eq_false (fun h => hz ⟨hq, h⟩)
    rw [decide_eq_true (by rw [hq]; rfl)] at i0
    unfold RN at *
    generalize decide (q.num < 0) = s at *
    cases s
    · conv => whnf
      refine caseb (fun h => Bool.noConfusion ((e0).symm.trans h)) (fun _ => ?_)
      conv => whnf
      refine caseb (fun _ => ?_) (fun h => Bool.noConfusion ((i0).symm.trans h))
      conv => whnf
      refine caseb (fun h => Bool.noConfusion ((eN).symm.trans h)) (fun _ => ?_)
      repeat
        conv => whnf
        first
          | refine ⟨_, by assumption, ?_⟩
          | refine ⟨(Nat.le_of_ble_eq_true rfl), _, by assumption, ?_⟩
          | refine ⟨by kernel_rfl, ?_⟩
          | exact rfl
          | refine ⟨by decide, ?_⟩
    · conv => whnf
      refine caseb (fun h => Bool.noConfusion ((e0).symm.trans h)) (fun _ => ?_)
      conv => whnf
      refine caseb (fun _ => ?_) (fun h => Bool.noConfusion ((i0).symm.trans h))
      conv => whnf
      refine caseb (fun h => Bool.noConfusion ((eN).symm.trans h)) (fun _ => ?_)
      repeat
        conv => whnf
        first
          | refine ⟨_, by assumption, ?_⟩
          | refine ⟨(Nat.le_of_ble_eq_true rfl), _, by assumption, ?_⟩
          | refine ⟨by kernel_rfl, ?_⟩
          | exact rfl
          | refine ⟨by decide, ?_⟩
  · rw [decide_eq_false (by have := num_ne hq; omega)] at i0
    unfold RN at *
    generalize decide (q.num < 0) = s at *
    cases s
    · conv => whnf
      refine caseb (fun h => Bool.noConfusion ((e0).symm.trans h)) (fun _ => ?_)
      conv => whnf
      refine caseb (fun h => Bool.noConfusion ((i0).symm.trans h)) (fun _ => ?_)
      repeat
        conv => whnf
        first
          | refine ⟨_, by assumption, ?_⟩
          | refine ⟨(Nat.le_of_ble_eq_true rfl), _, by assumption, ?_⟩
          | refine ⟨by kernel_rfl, ?_⟩
          | exact rfl
          | refine ⟨by decide, ?_⟩
    · conv => whnf
      refine caseb (fun h => Bool.noConfusion ((e0).symm.trans h)) (fun _ => ?_)
      conv => whnf
      refine caseb (fun h => Bool.noConfusion ((i0).symm.trans h)) (fun _ => ?_)
      repeat
        conv => whnf
        first
          | refine ⟨_, by assumption, ?_⟩
          | refine ⟨(Nat.le_of_ble_eq_true rfl), _, by assumption, ?_⟩
          | refine ⟨by kernel_rfl, ?_⟩
          | exact rfl
          | refine ⟨by decide, ?_⟩

theorem SPow_fit (q : Rat) (n most : Int) (hn : -9223372036854775808 ≤ n ∧ n < 9223372036854775808) (hm : most ≤ 200) (lq : Sz q 99) (hl : ¬ limQ q) (h0 : n ≠ 0)
    (f1 : fitsN (pb q n).num.natAbs (pk n) most) (f2 : fitsN (pb q n).den (pk n) most) : AC Try.prog 27 [RN q.num q.den, .val (.int .i64 n), .val (.int .i64 most)] (.pure (.tup [RN (pb q n ^ pk n).num (pb q n ^ pk n).den, .val (.bool true)])) := by
  refine AC.of_body TTok Try.func27 rfl (enter_of Try.func27 (by kernel_rfl) (by kernel_rfl)) (noid3 (RN_noid _ _) (.val _) (.val _)) (.tup _ (noid2 (RN_noid _ _) (.val _))) (Nat.le_of_ble_eq_true rfl) ?_
  have hL := SLimited_ok q.num q.den
  rw [decide_eq_false (show ¬ (q.den = 1 ∧ (q.num.natAbs = 0 ∨ q.num.natAbs = 1)) from hl)] at hL
  have i0 := is0 q.num.natAbs
  rw [decide_eq_false (by have := num_ne (lim_num hl); omega)] at i0
  have e0 := beq_ne0 h0
  have hF := SFrom_ok 1 (by decide)
  have hB := SDiv_ok 1 q ⟨by show (limbs 1).length ≤ 99; rw [limbs_1]; decide, by show (limbs 1).length ≤ 99; rw [limbs_1]; decide⟩ lq (lim_num hl)
  rw [Rat.one_num, Rat.one_den] at hB
  have hZ := SZero_ok
  have sp := pb_sz n hl lq
  have np := num_ne (pb_ne n hl)
  obtain ⟨k1, k2⟩ := pk_bd h0 hn
  have hpn : n < 0 → IntKind.i64.wrap (0 - (if n < -9223372036854775807 then -9223372036854775807 else n)) = (pk n : Int) := fun h => by
    have := pk_neg h hn.1
    by_cases h2 : n < -9223372036854775807
    · rw [if_pos (show -9223372036854775807 > n from h2)] at this
      rw [if_pos h2]; exact this
    · rw [if_neg (show ¬ -9223372036854775807 > n from h2)] at this
      rw [if_neg h2]; exact this
  have hpar := fit_par hl h0 hn hm f1 f2
  obtain ⟨p, hp⟩ : ∃ p, p = pb q n := ⟨_, rfl⟩
  rw [← hp] at sp np f1 f2 ⊢
  have := sp.1; have := sp.2; have := p.den_nz
  have P1 := RPow_fit p.num.natAbs (pk n) most (by omega) k1 k2 hm (by omega) (by rw [Int.toNat_natCast]; exact f1)
  have P2 := RPow_fit p.den (pk n) most (by omega) k1 k2 hm (by omega) (by rw [Int.toNat_natCast]; exact f2)
  rw [Int.toNat_natCast] at P1 P2
  have hx : 0 < p.num.natAbs ^ pk n := Nat.pow_pos (by omega)
  have hres : RN (p ^ pk n).num (p ^ pk n).den = .agg [.val (.bool (decide (p.num < 0) && ((n.tmod 2) != 0))), .val (.string (decS (p.num.natAbs ^ pk n))), .val (.string (decS (p.den ^ pk n)))] := by
    rw [tmod_b, show decide (n.tmod 2 ≠ 0) = decide ((pk n : Int) % 2 = 1) from decide_eq_decide.2 hpar.symm]
    unfold RN
    rw [Rat.num_pow, Rat.den_pow, pow_sgn, sgn_abs, sgn_neg, decide_eq_false (show ¬ p.num.natAbs ^ pk n = 0 by omega)]
    simp only [Bool.not_false, Bool.and_true]
  rw [hres]
  clear hres sp np f1 f2 hx hpar
  have hsg : n < 0 → decide (q.num < 0) = decide (p.num < 0) := fun h => by
    rw [hp]; unfold pb; rw [if_pos h, Rat.div_def, Rat.one_mul, Rat.num_inv]
    refine decide_eq_decide.2 ?_
    have := q.den_pos
    rcases Int.lt_trichotomy q.num 0 with h' | h' | h'
    · rw [Int.sign_eq_neg_one_of_neg h']; omega
    · exact absurd h' (num_ne (lim_num hl))
    · rw [Int.sign_eq_one_of_pos h']; omega
  revert P1 P2
  generalize p.num.natAbs ^ pk n = X
  generalize p.den ^ pk n = Y
  intro P1 P2
  rcases Int.lt_or_le n 0 with hs | hs
  · have hE := hpn hs
    have eN : decide (n < 0) = true := decide_eq_true hs
    rw [← show p = 1 / q by rw [hp]; unfold pb; rw [if_pos hs]] at hB
    by_cases hb : n < -9223372036854775807
    · have eB : decide (n < -9223372036854775807) = true := decide_eq_true hb
      rw [if_pos hb] at hE
      rw [← hE] at P1 P2
      clear hE hp k1 k2 hpn
      have hsq : decide (q.num < 0) = decide (p.num < 0) := hsg hs
      clear hsg
      unfold RN at *
      rw [hsq] at hL hB ⊢
      generalize decide (p.num < 0) = s at *
      cases s
      · conv => whnf
        refine caseb (fun h => Bool.noConfusion ((e0).symm.trans h)) (fun _ => ?_)
        conv => whnf
        refine caseb (fun h => Bool.noConfusion ((i0).symm.trans h)) (fun _ => ?_)
        conv => whnf
        refine ⟨by decide, ?_⟩
        conv => whnf
        refine ⟨_, hL, ?_⟩
        conv => whnf
        refine caseb (fun _ => ?_) (fun h => Bool.noConfusion ((eN).symm.trans h))
        conv => whnf
        refine ⟨_, hF, ?_⟩
        conv => whnf
        refine ⟨_, hB, ?_⟩
        conv => whnf
        refine ⟨by kernel_rfl, ?_⟩
        conv => whnf
        refine caseb (fun _ => ?_) (fun h => Bool.noConfusion ((eB).symm.trans h))
        repeat
          conv => whnf
          first
            | refine ⟨_, by assumption, ?_⟩
            | refine ⟨(Nat.le_of_ble_eq_true rfl), _, by assumption, ?_⟩
            | refine ⟨by kernel_rfl, ?_⟩
            | exact rfl
            | refine ⟨by decide, ?_⟩
      · conv => whnf
        refine caseb (fun h => Bool.noConfusion ((e0).symm.trans h)) (fun _ => ?_)
        conv => whnf
        refine caseb (fun h => Bool.noConfusion ((i0).symm.trans h)) (fun _ => ?_)
        conv => whnf
        refine ⟨by decide, ?_⟩
        conv => whnf
        refine ⟨_, hL, ?_⟩
        conv => whnf
        refine caseb (fun _ => ?_) (fun h => Bool.noConfusion ((eN).symm.trans h))
        conv => whnf
        refine ⟨_, hF, ?_⟩
        conv => whnf
        refine ⟨_, hB, ?_⟩
        conv => whnf
        refine ⟨by kernel_rfl, ?_⟩
        conv => whnf
        refine caseb (fun _ => ?_) (fun h => Bool.noConfusion ((eB).symm.trans h))
        repeat
          conv => whnf
          first
            | refine ⟨_, by assumption, ?_⟩
            | refine ⟨(Nat.le_of_ble_eq_true rfl), _, by assumption, ?_⟩
            | refine ⟨by kernel_rfl, ?_⟩
            | exact rfl
            | refine ⟨by decide, ?_⟩
    · have eB : decide (n < -9223372036854775807) = false := decide_eq_false hb
      rw [if_neg hb] at hE
      rw [← hE] at P1 P2
      clear hE hp k1 k2 hpn
      have hsq : decide (q.num < 0) = decide (p.num < 0) := hsg hs
      clear hsg
      unfold RN at *
      rw [hsq] at hL hB ⊢
      generalize decide (p.num < 0) = s at *
      cases s
      · conv => whnf
        refine caseb (fun h => Bool.noConfusion ((e0).symm.trans h)) (fun _ => ?_)
        conv => whnf
        refine caseb (fun h => Bool.noConfusion ((i0).symm.trans h)) (fun _ => ?_)
        conv => whnf
        refine ⟨by decide, ?_⟩
        conv => whnf
        refine ⟨_, hL, ?_⟩
        conv => whnf
        refine caseb (fun _ => ?_) (fun h => Bool.noConfusion ((eN).symm.trans h))
        conv => whnf
        refine ⟨_, hF, ?_⟩
        conv => whnf
        refine ⟨_, hB, ?_⟩
        conv => whnf
        refine ⟨by kernel_rfl, ?_⟩
        conv => whnf
        refine caseb (fun h => Bool.noConfusion ((eB).symm.trans h)) (fun _ => ?_)
        repeat
          conv => whnf
          first
            | refine ⟨_, by assumption, ?_⟩
            | refine ⟨(Nat.le_of_ble_eq_true rfl), _, by assumption, ?_⟩
            | refine ⟨by kernel_rfl, ?_⟩
            | exact rfl
            | refine ⟨by decide, ?_⟩
      · conv => whnf
        refine caseb (fun h => Bool.noConfusion ((e0).symm.trans h)) (fun _ => ?_)
        conv => whnf
        refine caseb (fun h => Bool.noConfusion ((i0).symm.trans h)) (fun _ => ?_)
        conv => whnf
        refine ⟨by decide, ?_⟩
        conv => whnf
        refine ⟨_, hL, ?_⟩
        conv => whnf
        refine caseb (fun _ => ?_) (fun h => Bool.noConfusion ((eN).symm.trans h))
        conv => whnf
        refine ⟨_, hF, ?_⟩
        conv => whnf
        refine ⟨_, hB, ?_⟩
        conv => whnf
        refine ⟨by kernel_rfl, ?_⟩
        conv => whnf
        refine caseb (fun h => Bool.noConfusion ((eB).symm.trans h)) (fun _ => ?_)
        repeat
          conv => whnf
          first
            | refine ⟨_, by assumption, ?_⟩
            | refine ⟨(Nat.le_of_ble_eq_true rfl), _, by assumption, ?_⟩
            | refine ⟨by kernel_rfl, ?_⟩
            | exact rfl
            | refine ⟨by decide, ?_⟩
  · have hE := pk_pos (show 0 < n by omega)
    have eN : decide (n < 0) = false := decide_eq_false (by omega)
    have hpe : p = q := by rw [hp]; unfold pb; rw [if_neg (by omega)]
    clear hB hF hp
    subst hpe
    rw [hE] at P1 P2
    clear hE k1 k2 hpn
    clear hsg
    unfold RN at *
    generalize decide (p.num < 0) = s at *
    cases s
    · conv => whnf
      refine caseb (fun h => Bool.noConfusion ((e0).symm.trans h)) (fun _ => ?_)
      conv => whnf
      refine caseb (fun h => Bool.noConfusion ((i0).symm.trans h)) (fun _ => ?_)
      conv => whnf
      refine ⟨by decide, ?_⟩
      conv => whnf
      refine ⟨_, hL, ?_⟩
      conv => whnf
      refine caseb (fun h => Bool.noConfusion ((eN).symm.trans h)) (fun _ => ?_)
      repeat
        conv => whnf
        first
          | refine ⟨_, by assumption, ?_⟩
          | refine ⟨(Nat.le_of_ble_eq_true rfl), _, by assumption, ?_⟩
          | refine ⟨by kernel_rfl, ?_⟩
          | exact rfl
          | refine ⟨by decide, ?_⟩
    · conv => whnf
      refine caseb (fun h => Bool.noConfusion ((e0).symm.trans h)) (fun _ => ?_)
      conv => whnf
      refine caseb (fun h => Bool.noConfusion ((i0).symm.trans h)) (fun _ => ?_)
      conv => whnf
      refine ⟨by decide, ?_⟩
      conv => whnf
      refine ⟨_, hL, ?_⟩
      conv => whnf
      refine caseb (fun h => Bool.noConfusion ((eN).symm.trans h)) (fun _ => ?_)
      repeat
        conv => whnf
        first
          | refine ⟨_, by assumption, ?_⟩
          | refine ⟨(Nat.le_of_ble_eq_true rfl), _, by assumption, ?_⟩
          | refine ⟨by kernel_rfl, ?_⟩
          | exact rfl
          | refine ⟨by decide, ?_⟩

theorem SPow_not (q : Rat) (n most : Int) (hn : -9223372036854775808 ≤ n ∧ n < 9223372036854775808) (hm : most ≤ 200) (lq : Sz q 99) (hl : ¬ limQ q) (h0 : n ≠ 0)
    (hf : ¬ (fitsN (pb q n).num.natAbs (pk n) most ∧ fitsN (pb q n).den (pk n) most)) : AC Try.prog 27 [RN q.num q.den, .val (.int .i64 n), .val (.int .i64 most)] (.pure (.tup [RN 0 1, .val (.bool false)])) := by
  refine AC.of_body TTok Try.func27 rfl (enter_of Try.func27 (by kernel_rfl) (by kernel_rfl)) (noid3 (RN_noid _ _) (.val _) (.val _)) (.tup _ (noid2 (RN_noid _ _) (.val _))) (Nat.le_of_ble_eq_true rfl) ?_
  have hL := SLimited_ok q.num q.den
  rw [decide_eq_false (show ¬ (q.den = 1 ∧ (q.num.natAbs = 0 ∨ q.num.natAbs = 1)) from hl)] at hL
  have i0 := is0 q.num.natAbs
  rw [decide_eq_false (by have := num_ne (lim_num hl); omega)] at i0
  have e0 := beq_ne0 h0
  have hF := SFrom_ok 1 (by decide)
  have hB := SDiv_ok 1 q ⟨by show (limbs 1).length ≤ 99; rw [limbs_1]; decide, by show (limbs 1).length ≤ 99; rw [limbs_1]; decide⟩ lq (lim_num hl)
  rw [Rat.one_num, Rat.one_den] at hB
  have hZ := SZero_ok
  have sp := pb_sz n hl lq
  have np := num_ne (pb_ne n hl)
  obtain ⟨k1, k2⟩ := pk_bd h0 hn
  have hpn : n < 0 → IntKind.i64.wrap (0 - (if n < -9223372036854775807 then -9223372036854775807 else n)) = (pk n : Int) := fun h => by
    have := pk_neg h hn.1
    by_cases h2 : n < -9223372036854775807
    · rw [if_pos (show -9223372036854775807 > n from h2)] at this
      rw [if_pos h2]; exact this
    · rw [if_neg (show ¬ -9223372036854775807 > n from h2)] at this
      rw [if_neg h2]; exact this
  obtain ⟨p, hp⟩ : ∃ p, p = pb q n := ⟨_, rfl⟩
  rw [← hp] at sp np hf
  have := sp.1; have := sp.2; have := p.den_nz
  have P : ∃ X Y b1 b2, (b1 && b2) = false ∧ AC Try.prog 89 [.val (.string (decS p.num.natAbs)), .val (.int .i64 (pk n)), .val (.int .i64 most)] (.pure (.tup [.val (.string X), .val (.bool b1)])) ∧ AC Try.prog 89 [.val (.string (decS p.den)), .val (.int .i64 (pk n)), .val (.int .i64 most)] (.pure (.tup [.val (.string Y), .val (.bool b2)])) := by
    have g1 : ∃ X b1, (b1 = true → fitsN p.num.natAbs (pk n) most) ∧ AC Try.prog 89 [.val (.string (decS p.num.natAbs)), .val (.int .i64 (pk n)), .val (.int .i64 most)] (.pure (.tup [.val (.string X), .val (.bool b1)])) := by
      by_cases f1 : fitsN p.num.natAbs (pk n) most
      · exact ⟨_, true, fun _ => f1, RPow_fit p.num.natAbs (pk n) most (by omega) k1 k2 hm (by omega) (by rw [Int.toNat_natCast]; exact f1)⟩
      · exact ⟨_, false, fun h => Bool.noConfusion h, RPow_not p.num.natAbs (pk n) most (by omega) k1 k2 hm (by omega) (by rw [Int.toNat_natCast]; exact f1)⟩
    have g2 : ∃ Y b2, (b2 = true → fitsN p.den (pk n) most) ∧ AC Try.prog 89 [.val (.string (decS p.den)), .val (.int .i64 (pk n)), .val (.int .i64 most)] (.pure (.tup [.val (.string Y), .val (.bool b2)])) := by
      by_cases f1 : fitsN p.den (pk n) most
      · exact ⟨_, true, fun _ => f1, RPow_fit p.den (pk n) most (by omega) k1 k2 hm (by omega) (by rw [Int.toNat_natCast]; exact f1)⟩
      · exact ⟨_, false, fun h => Bool.noConfusion h, RPow_not p.den (pk n) most (by omega) k1 k2 hm (by omega) (by rw [Int.toNat_natCast]; exact f1)⟩
    obtain ⟨X, b1, x1, x2⟩ := g1
    obtain ⟨Y, b2, y1, y2⟩ := g2
    refine ⟨X, Y, b1, b2, ?_, x2, y2⟩
    cases b1
    · rfl
    · cases b2
      · rfl
      · exact absurd ⟨x1 rfl, y1 rfl⟩ hf
  obtain ⟨X, Y, b1, b2, hbb, P1, P2⟩ := P
  clear sp np hf
  rcases Int.lt_or_le n 0 with hs | hs
  · have hE := hpn hs
    have eN : decide (n < 0) = true := decide_eq_true hs
    rw [← show p = 1 / q by rw [hp]; unfold pb; rw [if_pos hs]] at hB
    by_cases hb : n < -9223372036854775807
    · have eB : decide (n < -9223372036854775807) = true := decide_eq_true hb
      rw [if_pos hb] at hE
      rw [← hE] at P1 P2
      clear hE hp k1 k2 hpn
      unfold RN at *
      cases b1
      · conv => whnf
        refine caseb (fun h => Bool.noConfusion ((e0).symm.trans h)) (fun _ => ?_)
        conv => whnf
        refine caseb (fun h => Bool.noConfusion ((i0).symm.trans h)) (fun _ => ?_)
        conv => whnf
        refine ⟨by decide, ?_⟩
        conv => whnf
        refine ⟨_, hL, ?_⟩
        conv => whnf
        refine caseb (fun _ => ?_) (fun h => Bool.noConfusion ((eN).symm.trans h))
        conv => whnf
        refine ⟨_, hF, ?_⟩
        conv => whnf
        refine ⟨_, hB, ?_⟩
        conv => whnf
        refine ⟨by kernel_rfl, ?_⟩
        conv => whnf
        refine caseb (fun _ => ?_) (fun h => Bool.noConfusion ((eB).symm.trans h))
        repeat
          conv => whnf
          first
            | refine ⟨_, by assumption, ?_⟩
            | refine ⟨(Nat.le_of_ble_eq_true rfl), _, by assumption, ?_⟩
            | refine ⟨by kernel_rfl, ?_⟩
            | exact rfl
            | refine ⟨by decide, ?_⟩
      · cases b2
        · conv => whnf
          refine caseb (fun h => Bool.noConfusion ((e0).symm.trans h)) (fun _ => ?_)
          conv => whnf
          refine caseb (fun h => Bool.noConfusion ((i0).symm.trans h)) (fun _ => ?_)
          conv => whnf
          refine ⟨by decide, ?_⟩
          conv => whnf
          refine ⟨_, hL, ?_⟩
          conv => whnf
          refine caseb (fun _ => ?_) (fun h => Bool.noConfusion ((eN).symm.trans h))
          conv => whnf
          refine ⟨_, hF, ?_⟩
          conv => whnf
          refine ⟨_, hB, ?_⟩
          conv => whnf
          refine ⟨by kernel_rfl, ?_⟩
          conv => whnf
          refine caseb (fun _ => ?_) (fun h => Bool.noConfusion ((eB).symm.trans h))
          repeat
            conv => whnf
            first
              | refine ⟨_, by assumption, ?_⟩
              | refine ⟨(Nat.le_of_ble_eq_true rfl), _, by assumption, ?_⟩
              | refine ⟨by kernel_rfl, ?_⟩
              | exact rfl
              | refine ⟨by decide, ?_⟩
        · cases hbb
    · have eB : decide (n < -9223372036854775807) = false := decide_eq_false hb
      rw [if_neg hb] at hE
      rw [← hE] at P1 P2
      clear hE hp k1 k2 hpn
      unfold RN at *
      cases b1
      · conv => whnf
        refine caseb (fun h => Bool.noConfusion ((e0).symm.trans h)) (fun _ => ?_)
        conv => whnf
        refine caseb (fun h => Bool.noConfusion ((i0).symm.trans h)) (fun _ => ?_)
        conv => whnf
        refine ⟨by decide, ?_⟩
        conv => whnf
        refine ⟨_, hL, ?_⟩
        conv => whnf
        refine caseb (fun _ => ?_) (fun h => Bool.noConfusion ((eN).symm.trans h))
        conv => whnf
        refine ⟨_, hF, ?_⟩
        conv => whnf
        refine ⟨_, hB, ?_⟩
        conv => whnf
        refine ⟨by kernel_rfl, ?_⟩
        conv => whnf
        refine caseb (fun h => Bool.noConfusion ((eB).symm.trans h)) (fun _ => ?_)
        repeat
          conv => whnf
          first
            | refine ⟨_, by assumption, ?_⟩
            | refine ⟨(Nat.le_of_ble_eq_true rfl), _, by assumption, ?_⟩
            | refine ⟨by kernel_rfl, ?_⟩
            | exact rfl
            | refine ⟨by decide, ?_⟩
      · cases b2
        · conv => whnf
          refine caseb (fun h => Bool.noConfusion ((e0).symm.trans h)) (fun _ => ?_)
          conv => whnf
          refine caseb (fun h => Bool.noConfusion ((i0).symm.trans h)) (fun _ => ?_)
          conv => whnf
          refine ⟨by decide, ?_⟩
          conv => whnf
          refine ⟨_, hL, ?_⟩
          conv => whnf
          refine caseb (fun _ => ?_) (fun h => Bool.noConfusion ((eN).symm.trans h))
          conv => whnf
          refine ⟨_, hF, ?_⟩
          conv => whnf
          refine ⟨_, hB, ?_⟩
          conv => whnf
          refine ⟨by kernel_rfl, ?_⟩
          conv => whnf
          refine caseb (fun h => Bool.noConfusion ((eB).symm.trans h)) (fun _ => ?_)
          repeat
            conv => whnf
            first
              | refine ⟨_, by assumption, ?_⟩
              | refine ⟨(Nat.le_of_ble_eq_true rfl), _, by assumption, ?_⟩
              | refine ⟨by kernel_rfl, ?_⟩
              | exact rfl
              | refine ⟨by decide, ?_⟩
        · cases hbb
  · have hE := pk_pos (show 0 < n by omega)
    have eN : decide (n < 0) = false := decide_eq_false (by omega)
    have hpe : p = q := by rw [hp]; unfold pb; rw [if_neg (by omega)]
    clear hB hF hp
    subst hpe
    rw [hE] at P1 P2
    clear hE k1 k2 hpn
    unfold RN at *
    cases b1
    · conv => whnf
      refine caseb (fun h => Bool.noConfusion ((e0).symm.trans h)) (fun _ => ?_)
      conv => whnf
      refine caseb (fun h => Bool.noConfusion ((i0).symm.trans h)) (fun _ => ?_)
      conv => whnf
      refine ⟨by decide, ?_⟩
      conv => whnf
      refine ⟨_, hL, ?_⟩
      conv => whnf
      refine caseb (fun h => Bool.noConfusion ((eN).symm.trans h)) (fun _ => ?_)
      repeat
        conv => whnf
        first
          | refine ⟨_, by assumption, ?_⟩
          | refine ⟨(Nat.le_of_ble_eq_true rfl), _, by assumption, ?_⟩
          | refine ⟨by kernel_rfl, ?_⟩
          | exact rfl
          | refine ⟨by decide, ?_⟩
    · cases b2
      · conv => whnf
        refine caseb (fun h => Bool.noConfusion ((e0).symm.trans h)) (fun _ => ?_)
        conv => whnf
        refine caseb (fun h => Bool.noConfusion ((i0).symm.trans h)) (fun _ => ?_)
        conv => whnf
        refine ⟨by decide, ?_⟩
        conv => whnf
        refine ⟨_, hL, ?_⟩
        conv => whnf
        refine caseb (fun h => Bool.noConfusion ((eN).symm.trans h)) (fun _ => ?_)
        repeat
          conv => whnf
          first
            | refine ⟨_, by assumption, ?_⟩
            | refine ⟨(Nat.le_of_ble_eq_true rfl), _, by assumption, ?_⟩
            | refine ⟨by kernel_rfl, ?_⟩
            | exact rfl
            | refine ⟨by decide, ?_⟩
      · cases hbb

end Go.Proofs.Ytabgankeaagibaa

/- Layer 3: what is read, the chapter's examples. -/
set_option linter.unusedVariables false
namespace Go.Proofs.Ytabgankeaagibaa
open Go Go.AL NM

/-- What is read of a number as the page speaks of it. -/
def Rd3 (b : Bool) (s t : List Int) (q : Rat) (ok : Bool) : Prop :=
  (ok = true → RT b s t = RN q.num q.den ∧ RQ b s t ∧ s.length ≤ 50 ∧ t.length ≤ 50 ∧ q = qOf b s t) ∧ AC Try.prog 25 [RT b s t] (.pure (.tup [if ok then RA q.num q.den else RA 0 0, .val (.bool ok)]))

theorem read3 (b : Bool) (s t : List Int) (hBs : Byt s) (hBt : Byt t) : ∃ q ok, Rd3 b s t q ok := by
  have z1 := strL_size s
  have z2 := strL_size t
  by_cases h1 : s.length ≤ 50 ∧ t.length ≤ 50
  · have hR := SRight_ok b s t hBs hBt (by omega) (by omega)
    have f1 : decide (((strL s).size : Int) > 50) = false := decide_eq_false (by omega)
    have f2 : decide (((strL t).size : Int) > 50) = false := decide_eq_false (by omega)
    by_cases hq : RQ b s t
    · have hO := SOf_ok b s t hBs hBt (by omega) (by omega) hq.1 hq.2.1 hq.2.2.2.2.1
      rw [decide_eq_true hq] at hR hO
      refine ⟨qOf b s t, true, fun _ => ⟨RQ_is hq, hq, h1.1, h1.2, rfl⟩, ?_⟩
      rw [if_pos rfl]
      refine AC.of_body TTok Try.func25 rfl (enter_of Try.func25 (by kernel_rfl) (by kernel_rfl)) (noid1 (RT_noid _ _ _)) (.tup _ (noid2 (RA_noid _ _) (.val _))) (Nat.le_of_ble_eq_true rfl) ?_
      unfold RT RA at *
      conv => whnf
      refine caseb (fun h => Bool.noConfusion ((f1).symm.trans h)) (fun _ => ?_)
      conv => whnf
      refine caseb (fun h => Bool.noConfusion ((f2).symm.trans h)) (fun _ => ?_)
      repeat
        conv => whnf
        first
          | refine ⟨_, by assumption, ?_⟩
          | refine ⟨(Nat.le_of_ble_eq_true rfl), _, by assumption, ?_⟩
          | refine ⟨by kernel_rfl, ?_⟩
          | exact rfl
          | refine ⟨by decide, ?_⟩
    · rw [decide_eq_false hq] at hR
      refine ⟨0, false, fun h => Bool.noConfusion h, ?_⟩
      rw [if_neg (by decide)]
      refine RZ_res ?_
      refine AC.of_body TTok Try.func25 rfl (enter_of Try.func25 (by kernel_rfl) (by kernel_rfl)) (noid1 (RT_noid _ _ _)) (.tup _ (noid2 RZ_noid (.val _))) (Nat.le_of_ble_eq_true rfl) ?_
      unfold RT at *
      conv => whnf
      refine caseb (fun h => Bool.noConfusion ((f1).symm.trans h)) (fun _ => ?_)
      conv => whnf
      refine caseb (fun h => Bool.noConfusion ((f2).symm.trans h)) (fun _ => ?_)
      repeat
        conv => whnf
        first
          | refine ⟨_, by assumption, ?_⟩
          | refine ⟨(Nat.le_of_ble_eq_true rfl), _, by assumption, ?_⟩
          | refine ⟨by kernel_rfl, ?_⟩
          | exact rfl
          | refine ⟨by decide, ?_⟩
  · refine ⟨0, false, fun h => Bool.noConfusion h, ?_⟩
    rw [if_neg (by decide)]
    refine RZ_res ?_
    refine AC.of_body TTok Try.func25 rfl (enter_of Try.func25 (by kernel_rfl) (by kernel_rfl)) (noid1 (RT_noid _ _ _)) (.tup _ (noid2 RZ_noid (.val _))) (Nat.le_of_ble_eq_true rfl) ?_
    unfold RT at *
    by_cases h2 : s.length ≤ 50
    · have f1 : decide (((strL s).size : Int) > 50) = false := decide_eq_false (by omega)
      have f2 : decide (((strL t).size : Int) > 50) = true := decide_eq_true (by omega)
      conv => whnf
      refine caseb (fun h => Bool.noConfusion ((f1).symm.trans h)) (fun _ => ?_)
      conv => whnf
      refine caseb (fun _ => ?_) (fun h => Bool.noConfusion ((f2).symm.trans h))
      repeat
        conv => whnf
        first
          | refine ⟨_, by assumption, ?_⟩
          | refine ⟨(Nat.le_of_ble_eq_true rfl), _, by assumption, ?_⟩
          | refine ⟨by kernel_rfl, ?_⟩
          | exact rfl
          | refine ⟨by decide, ?_⟩
    · have f1 : decide (((strL s).size : Int) > 50) = true := decide_eq_true (by omega)
      conv => whnf
      refine caseb (fun _ => ?_) (fun h => Bool.noConfusion ((f1).symm.trans h))
      repeat
        conv => whnf
        first
          | refine ⟨_, by assumption, ?_⟩
          | refine ⟨(Nat.le_of_ble_eq_true rfl), _, by assumption, ?_⟩
          | refine ⟨by kernel_rfl, ?_⟩
          | exact rfl
          | refine ⟨by decide, ?_⟩

theorem limbs_small {n : Nat} (h : n < 4294967296) : (limbs n).length ≤ 1 := limbs_len_le (k := 1) (by omega)
theorem Sz_small {q : Rat} (h1 : q.num.natAbs < 4294967296) (h2 : q.den < 4294967296) : Sz q 1 := ⟨limbs_small h1, limbs_small h2⟩
/-- Small numbers written out. -/
theorem RN_small (t : Int) (d : Nat) (s : Bool) (x y : Nat) (ht : decide (t < 0) = s) (hx : t.natAbs = x) (hx' : x < 10) (hd : d = y) (hy' : y < 10) :
    RN t d = .agg [.val (.bool s), .val (.string (strL [((48 + x : Nat) : Int)])), .val (.string (strL [((48 + y : Nat) : Int)]))] := by
  unfold RN decS
  rw [ht, hx, hd, decL_one x hx', decL_one y hy']

/-- Such a number is the one that was written. -/
theorem RN_is (s : Bool) (x y : Nat) (X Y : ByteArray) (hx : strL [((48 + x : Nat) : Int)] = X) (hy : strL [((48 + y : Nat) : Int)] = Y) :
    ((s == s) && (((strL [((48 + x : Nat) : Int)]).toList == X.toList) && (((strL [((48 + y : Nat) : Int)]).toList == Y.toList) && true))) = true := by
  rw [hx, hy]; simp

theorem awake3_ok : AC Try.prog 14 [] (.pure (.val (.bool true))) := by
  refine AC.of_body TTok Try.func14 rfl (enter_of Try.func14 (by kernel_rfl) (by kernel_rfl)) (by intro x hx; cases hx) (.val _) (Nat.le_of_ble_eq_true rfl) ?_
  have f6 := From_ok 6 (by decide)
  have f4 := From_ok (-4) (by decide)
  have f2 := From_ok 2 (by decide)
  have f3 := From_ok 3 (by decide)
  have n1 := New_ok 6 (-4) (by decide) (Nat.le_trans (limbs_small (by decide)) (by decide)) (Nat.le_trans (limbs_small (by decide)) (by decide))
  have n2 := New_ok 2 3 (by decide) (Nat.le_trans (limbs_small (by decide)) (by decide)) (Nat.le_trans (limbs_small (by decide)) (by decide))
  obtain ⟨a, ha⟩ : ∃ a, a = Rat.divInt 6 (-4) := ⟨_, rfl⟩
  obtain ⟨b, hb⟩ : ∃ b, b = Rat.divInt 2 3 := ⟨_, rfl⟩
  rw [← ha] at n1
  rw [← hb] at n2
  have a1 : a.num = -3 := by rw [ha]; decide +kernel
  have a2 : a.den = 2 := by rw [ha]; decide +kernel
  have b1 : b.num = 2 := by rw [hb]; decide +kernel
  have b2 : b.den = 3 := by rw [hb]; decide +kernel
  have sb : Sz b 300 := (Sz_small (by rw [b1]; decide) (by rw [b2]; decide)).mono (by decide)
  have pp : pb b (-2) = Rat.divInt 3 2 := by rw [hb]; decide +kernel
  have pk2 : pk (-2) = 2 := by decide
  have hl : ¬ limQ b := fun h => by have := h.1; omega
  have fit : ∀ x : Nat, x < 10 → fitsN x 2 3 := fun x hx => .inr (by
    have : (limbs (x ^ 2)).length ≤ 1 := limbs_small (Nat.lt_of_le_of_lt (Nat.pow_le_pow_left (Nat.le_of_lt hx) 2) (by decide))
    omega)
  have hP := QPow_fit b b.den (-2) 3 (dn_den b) (by decide) (by decide) sb hl (by decide) (by rw [pp, pk2]; exact fit _ (by decide +kernel)) (by rw [pp, pk2]; exact fit _ (by decide +kernel))
  rw [pp, pk2] at hP
  obtain ⟨p, hp⟩ : ∃ p, p = Rat.divInt 3 2 ^ 2 := ⟨_, rfl⟩
  rw [← hp] at hP
  have p1 : p.num = 9 := by rw [hp]; decide +kernel
  have p2 : p.den = 4 := by rw [hp]; decide +kernel
  have r1 := RatFrom_ok (-2) (by decide)
  have r2 := RatFrom_ok 7 (by decide)
  have sz2 : Sz (-2) 20 := (Sz_small (by decide) (by decide)).mono (by decide)
  have sz7 : Sz 7 20 := (Sz_small (by decide) (by decide)).mono (by decide)
  have hR := Rest_ok (-2) 7 1 1 (by decide +kernel) rfl rfl sz2 sz7
  rw [show (-2 : Rat).num = -2 from rfl, show (7 : Rat).num = 7 from rfl] at hR
  obtain ⟨r, hr⟩ : ∃ r, r = restQ (-2) 7 := ⟨_, rfl⟩
  rw [← hr] at hR
  have q1 : r.num = -1 := by rw [hr]; decide +kernel
  have q2 : r.den = 1 := by rw [hr]; decide +kernel
  have l3 : ∀ q : Rat, q.num.natAbs < 10 → q.den < 10 → AC Try.prog 22 [RA q.num q.den] (.pure (RN q.num q.den)) := fun q h1 h2 => by
    have := limbs_small (n := q.num.natAbs) (by omega)
    have := limbs_small (n := q.den) (by omega)
    have hN := Num_ok q.num q.den (by omega) (by rw [dn_den]; omega)
    rwa [dn_den] at hN
  have m1 := l3 a (by rw [a1]; decide) (by rw [a2]; decide)
  have m2 := l3 r (by rw [q1]; decide) (by rw [q2]; decide)
  have m3 := l3 p (by rw [p1]; decide) (by rw [p2]; decide)
  rw [RN_small a.num a.den true 3 2 (by rw [a1]; rfl) (by rw [a1]; rfl) (by decide) a2 (by decide)] at m1
  rw [RN_small r.num r.den true 1 1 (by rw [q1]; rfl) (by rw [q1]; rfl) (by decide) q2 (by decide)] at m2
  rw [RN_small p.num p.den false 9 4 (by rw [p1]; rfl) (by rw [p1]; rfl) (by decide) p2 (by decide)] at m3
  clear l3 sz2 sz7 fit hl pp sb
  clear ha hb hp hr a1 a2 b1 b2 p1 p2 q1 q2
  have e1 := RN_is true 3 2 { data := #[51] } { data := #[50] } rfl rfl
  have e2 := RN_is true 1 1 { data := #[49] } { data := #[49] } rfl rfl
  have e3 := RN_is false 9 4 { data := #[57] } { data := #[52] } rfl rfl
  unfold RA WI at *
  repeat
    conv => whnf
    first
      | refine ⟨_, by assumption, ?_⟩
      | refine ⟨(Nat.le_of_ble_eq_true rfl), _, by assumption, ?_⟩
      | refine ⟨by kernel_rfl, ?_⟩
      | exact rfl
      | refine ⟨by decide, ?_⟩
  conv => whnf
  refine caseb (fun _ => ?_) (fun h => Bool.noConfusion ((e1).symm.trans h))
  repeat
    conv => whnf
    first
      | refine ⟨_, by assumption, ?_⟩
      | refine ⟨(Nat.le_of_ble_eq_true rfl), _, by assumption, ?_⟩
      | refine ⟨by kernel_rfl, ?_⟩
      | exact rfl
      | refine ⟨by decide, ?_⟩
  conv => whnf
  refine caseb (fun _ => ?_) (fun h => Bool.noConfusion ((e2).symm.trans h))
  repeat
    conv => whnf
    first
      | refine ⟨_, by assumption, ?_⟩
      | refine ⟨(Nat.le_of_ble_eq_true rfl), _, by assumption, ?_⟩
      | refine ⟨by kernel_rfl, ?_⟩
      | exact rfl
      | refine ⟨by decide, ?_⟩
  conv => whnf
  refine valB ?_
  exact e3

end Go.Proofs.Ytabgankeaagibaa

/- Layer 3: words for its laws. -/
set_option linter.unusedVariables false
namespace Go.Proofs.Ytabgankeaagibaa
open Go Go.AL NM

/-- A number is itself. -/
theorem RN_self (x : Bool) (s t : ByteArray) : ((x == x) && ((s.toList == s.toList) && ((t.toList == t.toList) && true))) = true := by simp
theorem RN_selfn (x : Bool) (s t : ByteArray) : (!((x == x) && ((s.toList == s.toList) && ((t.toList == t.toList) && true)))) = false := by simp
theorem int_self (x : Int) : (x == x) = true := beq_self_eq_true x
theorem bool_self (x : Bool) : (x == x) = true := beq_self_eq_true x
theorem str_self (s : ByteArray) : (s.toList == s.toList) = true := beq_self_eq_true _
theorem NumS (q : Rat) (i : Nat) (hi : dn i = q.den) (h : Sz q 100000) : AC Try.prog 22 [RA q.num i] (.pure (RN q.num q.den)) := by
  have := Num_ok q.num i h.1 (by rw [hi]; exact h.2)
  rwa [hi] at this
theorem Sz_zero : Sz 0 1 := Sz_small (by decide) (by decide)

/-- A quotient, in both, or none. -/
theorem by_both (p q : Rat) (lp : Sz p 99) (lq : Sz q 99) (i j : Nat) (hi : dn i = p.den) (hj : dn j = q.den) : ∃ (x : Rat) (d : Nat) (g : Bool), g = decide (q ≠ 0) ∧ dn d = x.den ∧ Sz x 198 ∧ (g = true → x = p / q) ∧ (g = false → x = 0 ∧ d = 0) ∧
    AC Try.prog 35 [RA p.num i, RA q.num j] (.pure (.tup [RA x.num d, .val (.bool g)])) ∧ AC Try.prog 36 [RN p.num p.den, RN q.num q.den] (.pure (.tup [RN x.num x.den, .val (.bool g)])) := by
  by_cases h : q = 0
  · subst h
    exact ⟨0, 0, false, rfl, rfl, Sz_zero.mono (by decide), fun h => Bool.noConfusion h, fun _ => ⟨rfl, rfl⟩, By_zero p i j hi hj (lp.mono (by decide)), SDiv_zero p lp⟩
  · exact ⟨p / q, (p / q).den, true, (decide_eq_true h).symm, dn_den _, (Sz_div h lp lq).mono (by decide), fun _ => rfl, fun h => Bool.noConfusion h, By_ok p q i j hi hj (lp.mono (by decide)) (lq.mono (by decide)) h, SDiv_ok p q lp lq h⟩

theorem Rd3.sz {b : Bool} {s t : List Int} {q : Rat} (h : Rd3 b s t q true) : Sz q 6 ∧ RT b s t = RN q.num q.den ∧ AC Try.prog 25 [RN q.num q.den] (.pure (.tup [RA q.num q.den, .val (.bool true)])) := by
  obtain ⟨h1, h2⟩ := h
  obtain ⟨e, hq, l1, l2, rfl⟩ := h1 rfl
  rw [if_pos rfl, e] at h2
  exact ⟨RQ_sz hq l1 l2 (by decide), e, h2⟩
theorem Rd3.bad {b : Bool} {s t : List Int} {q : Rat} {o : Bool} (h : Rd3 b s t q o) : ∃ x d, AC Try.prog 25 [RT b s t] (.pure (.tup [RA x d, .val (.bool o)])) := by
  have h2 := h.2
  cases o
  · exact ⟨0, 0, h2⟩
  · exact ⟨q.num, q.den, h2⟩

end Go.Proofs.Ytabgankeaagibaa

/- Layer 3: powers, in both. -/
set_option linter.unusedVariables false
namespace Go.Proofs.Ytabgankeaagibaa
open Go Go.AL NM

theorem right_decL (n : Nat) (h : (decL n).length ≤ 2000) : right (decL n) = true := by
  unfold right
  rw [Bool.and_eq_true, decide_eq_true_eq, List.all_eq_true]
  have h1 := List.length_pos_iff.2 (decL_ne n)
  exact ⟨⟨h1, h⟩, fun x hx => decide_eq_true (decL_byt n x hx)⟩
theorem Right_num (n : Nat) (h : (decL n).length ≤ 2000) : AC Try.prog 28 [.val (.string (decS n))] (.pure (.val (.bool true))) := by
  have := Right_ok (decL n) (fun x hx => by have := decL_byt n x hx; omega) (by omega)
  rwa [right_decL n h] at this
theorem fits_sz {a k : Nat} {most : Int} {K : Nat} (h1 : 1 ≤ K) (hm : most ≤ K) (h : fitsN a k most) : (limbs (a ^ k)).length ≤ K := by
  rcases h with h | h
  · subst h; rw [Nat.one_pow, limbs_1]; exact h1
  · omega

theorem pow_both (q : Rat) (i : Nat) (n most : Int) (hi : dn i = q.den) (hn : -9223372036854775808 ≤ n ∧ n < 9223372036854775808) (hm : most ≤ 200) (lq : Sz q 99) : ∃ (d : Nat), dn d = (powQ q n most).1.den ∧
    AC Try.prog 26 [RA q.num i, .val (.int .i64 n), .val (.int .i64 most)] (.pure (.tup [RA (powQ q n most).1.num d, .val (.bool (powQ q n most).2)])) ∧
    AC Try.prog 27 [RN q.num q.den, .val (.int .i64 n), .val (.int .i64 most)] (.pure (.tup [RN (powQ q n most).1.num (powQ q n most).1.den, .val (.bool (powQ q n most).2)])) := by
  unfold powQ
  by_cases h0 : n = 0
  · subst h0
    exact ⟨1, rfl, QPow_zero q i most, SPow_zero q most⟩
  · rw [if_neg h0]
    by_cases hl : limQ q
    · rw [if_pos hl]
      by_cases hz : q = 0 ∧ n < 0
      · rw [if_pos hz]
        exact ⟨0, rfl, QPow_none q i n most hi hz.1 hz.2, SPow_none q n most hz.1 hz.2⟩
      · rw [if_neg hz]
        have hS := SPow_lim q n most hl h0 hz
        by_cases he : n % 2 = 0
        · rw [if_pos he] at hS ⊢
          exact ⟨_, dn_den _, QPow_even q i n most hi (lq.mono (by decide)) hl h0 hz he, hS⟩
        · rw [if_neg he] at hS ⊢
          exact ⟨_, hi, QPow_odd q i n most hi hl h0 hz he, hS⟩
    · rw [if_neg hl]
      by_cases hf : fitsN (pb q n).num.natAbs (pk n) most ∧ fitsN (pb q n).den (pk n) most
      · rw [if_pos hf]
        exact ⟨_, dn_den _, QPow_fit q i n most hi hn hm (lq.mono (by decide)) hl h0 hf.1 hf.2, SPow_fit q n most hn hm lq hl h0 hf.1 hf.2⟩
      · rw [if_neg hf]
        exact ⟨0, rfl, QPow_not q i n most hi hn hm (lq.mono (by decide)) hl h0 hf, SPow_not q n most hn hm lq hl h0 hf⟩
theorem pow_sz (q : Rat) (n most : Int) (K : Nat) (h1 : 1 ≤ K) (hm : most ≤ K) (hq : Sz q K) : Sz (powQ q n most).1 (2 * K) := by
  unfold powQ
  split
  · exact (Sz_small (q := 1) (by decide) (by decide)).mono (by omega)
  · split
    · split
      · exact Sz_zero.mono (by omega)
      · show Sz (if n % 2 = 0 then q * q else q) (2 * K)
        split
        · exact (Sz_mul hq hq).mono (by omega)
        · exact hq.mono (by omega)
    · split
      · rename_i hf
        refine ⟨?_, ?_⟩
        · show (limbs (pb q n ^ pk n).num.natAbs).length ≤ _
          rw [Rat.num_pow, Int.natAbs_pow]
          exact Nat.le_trans (fits_sz h1 hm hf.1) (by omega)
        · show (limbs (pb q n ^ pk n).den).length ≤ _
          rw [Rat.den_pow]
          exact Nat.le_trans (fits_sz h1 hm hf.2) (by omega)
      · exact Sz_zero.mono (by omega)

theorem RT_of (b : Bool) (s t : ByteArray) : AV.agg [.val (.bool b), .val (.string s), .val (.string t)] = RT b (bytesL s) (bytesL t) := by
  unfold RT
  rw [strL_bytesL, strL_bytesL]
theorem RQ_len {b : Bool} {s t : List Int} (h : RQ b s t) : (decS (qOf b s t).num.natAbs).size = s.length ∧ (decS (qOf b s t).den).size = t.length := by
  obtain ⟨e1, e2⟩ := RQ_num h
  rw [e1, e2, sgn_abs]
  unfold decS
  rw [strL_size, strL_size, ← h.2.2.1, ← h.2.2.2.1]
  exact ⟨rfl, rfl⟩

end Go.Proofs.Ytabgankeaagibaa

/- Functions of one number: their signs, how large an answer may be, the truth turned about. -/
set_option linter.unusedVariables false
namespace Go.Proofs.Ytabgankeaagibaa
open Go Go.AL NM

def isOne (c : Int) : Prop := c = 43 ∨ c = 45 ∨ c = 215 ∨ c = 247 ∨ c = 8968 ∨ c = 8970 ∨ c = 124 ∨ c = 42 ∨ c = 33 ∨ c = 126 ∨ c = 9055 ∨ c = 9675
instance (c : Int) : Decidable (isOne c) := inferInstanceAs (Decidable (_ ∨ _ ∨ _ ∨ _ ∨ _ ∨ _ ∨ _ ∨ _ ∨ _ ∨ _ ∨ _ ∨ _))
theorem MHas_ok (c : Int) : AC Try.prog 33 [.val (.int .i32 c)] (.pure (.val (.bool (decide (isOne c))))) := by
  refine AC.of_body TTok Try.func33 rfl (enter_of Try.func33 (by kernel_rfl) (by kernel_rfl)) (noid1 (.val _)) (.val _) (Nat.le_of_ble_eq_true rfl) ?_
  by_cases h0 : c = 43
  · subst h0
    rw [decide_eq_true (show isOne 43 by decide)]
    repeat
      conv => whnf
      first
        | refine ⟨_, by assumption, ?_⟩
        | refine ⟨(Nat.le_of_ble_eq_true rfl), _, by assumption, ?_⟩
        | refine ⟨by kernel_rfl, ?_⟩
        | exact rfl
        | refine ⟨by decide, ?_⟩
  by_cases h1 : c = 45
  · subst h1
    rw [decide_eq_true (show isOne 45 by decide)]
    repeat
      conv => whnf
      first
        | refine ⟨_, by assumption, ?_⟩
        | refine ⟨(Nat.le_of_ble_eq_true rfl), _, by assumption, ?_⟩
        | refine ⟨by kernel_rfl, ?_⟩
        | exact rfl
        | refine ⟨by decide, ?_⟩
  by_cases h2 : c = 215
  · subst h2
    rw [decide_eq_true (show isOne 215 by decide)]
    repeat
      conv => whnf
      first
        | refine ⟨_, by assumption, ?_⟩
        | refine ⟨(Nat.le_of_ble_eq_true rfl), _, by assumption, ?_⟩
        | refine ⟨by kernel_rfl, ?_⟩
        | exact rfl
        | refine ⟨by decide, ?_⟩
  by_cases h3 : c = 247
  · subst h3
    rw [decide_eq_true (show isOne 247 by decide)]
    repeat
      conv => whnf
      first
        | refine ⟨_, by assumption, ?_⟩
        | refine ⟨(Nat.le_of_ble_eq_true rfl), _, by assumption, ?_⟩
        | refine ⟨by kernel_rfl, ?_⟩
        | exact rfl
        | refine ⟨by decide, ?_⟩
  by_cases h4 : c = 8968
  · subst h4
    rw [decide_eq_true (show isOne 8968 by decide)]
    repeat
      conv => whnf
      first
        | refine ⟨_, by assumption, ?_⟩
        | refine ⟨(Nat.le_of_ble_eq_true rfl), _, by assumption, ?_⟩
        | refine ⟨by kernel_rfl, ?_⟩
        | exact rfl
        | refine ⟨by decide, ?_⟩
  by_cases h5 : c = 8970
  · subst h5
    rw [decide_eq_true (show isOne 8970 by decide)]
    repeat
      conv => whnf
      first
        | refine ⟨_, by assumption, ?_⟩
        | refine ⟨(Nat.le_of_ble_eq_true rfl), _, by assumption, ?_⟩
        | refine ⟨by kernel_rfl, ?_⟩
        | exact rfl
        | refine ⟨by decide, ?_⟩
  by_cases h6 : c = 124
  · subst h6
    rw [decide_eq_true (show isOne 124 by decide)]
    repeat
      conv => whnf
      first
        | refine ⟨_, by assumption, ?_⟩
        | refine ⟨(Nat.le_of_ble_eq_true rfl), _, by assumption, ?_⟩
        | refine ⟨by kernel_rfl, ?_⟩
        | exact rfl
        | refine ⟨by decide, ?_⟩
  by_cases h7 : c = 42
  · subst h7
    rw [decide_eq_true (show isOne 42 by decide)]
    repeat
      conv => whnf
      first
        | refine ⟨_, by assumption, ?_⟩
        | refine ⟨(Nat.le_of_ble_eq_true rfl), _, by assumption, ?_⟩
        | refine ⟨by kernel_rfl, ?_⟩
        | exact rfl
        | refine ⟨by decide, ?_⟩
  by_cases h8 : c = 33
  · subst h8
    rw [decide_eq_true (show isOne 33 by decide)]
    repeat
      conv => whnf
      first
        | refine ⟨_, by assumption, ?_⟩
        | refine ⟨(Nat.le_of_ble_eq_true rfl), _, by assumption, ?_⟩
        | refine ⟨by kernel_rfl, ?_⟩
        | exact rfl
        | refine ⟨by decide, ?_⟩
  by_cases h9 : c = 126
  · subst h9
    rw [decide_eq_true (show isOne 126 by decide)]
    repeat
      conv => whnf
      first
        | refine ⟨_, by assumption, ?_⟩
        | refine ⟨(Nat.le_of_ble_eq_true rfl), _, by assumption, ?_⟩
        | refine ⟨by kernel_rfl, ?_⟩
        | exact rfl
        | refine ⟨by decide, ?_⟩
  by_cases h10 : c = 9055
  · subst h10
    rw [decide_eq_true (show isOne 9055 by decide)]
    repeat
      conv => whnf
      first
        | refine ⟨_, by assumption, ?_⟩
        | refine ⟨(Nat.le_of_ble_eq_true rfl), _, by assumption, ?_⟩
        | refine ⟨by kernel_rfl, ?_⟩
        | exact rfl
        | refine ⟨by decide, ?_⟩
  by_cases h11 : c = 9675
  · subst h11
    rw [decide_eq_true (show isOne 9675 by decide)]
    repeat
      conv => whnf
      first
        | refine ⟨_, by assumption, ?_⟩
        | refine ⟨(Nat.le_of_ble_eq_true rfl), _, by assumption, ?_⟩
        | refine ⟨by kernel_rfl, ?_⟩
        | exact rfl
        | refine ⟨by decide, ?_⟩
  have e0 : (c == 43) = false := beq_false_of_ne h0
  have e1 : (c == 45) = false := beq_false_of_ne h1
  have e2 : (c == 215) = false := beq_false_of_ne h2
  have e3 : (c == 247) = false := beq_false_of_ne h3
  have e4 : (c == 8968) = false := beq_false_of_ne h4
  have e5 : (c == 8970) = false := beq_false_of_ne h5
  have e6 : (c == 124) = false := beq_false_of_ne h6
  have e7 : (c == 42) = false := beq_false_of_ne h7
  have e8 : (c == 33) = false := beq_false_of_ne h8
  have e9 : (c == 126) = false := beq_false_of_ne h9
  have e10 : (c == 9055) = false := beq_false_of_ne h10
  have e11 : (c == 9675) = false := beq_false_of_ne h11
  rw [decide_eq_false (show ¬ isOne c by unfold isOne; omega)]
  conv => whnf
  refine caseb (fun h => Bool.noConfusion ((e0).symm.trans h)) (fun _ => ?_)
  conv => whnf
  refine caseb (fun h => Bool.noConfusion ((e1).symm.trans h)) (fun _ => ?_)
  conv => whnf
  refine caseb (fun h => Bool.noConfusion ((e2).symm.trans h)) (fun _ => ?_)
  conv => whnf
  refine caseb (fun h => Bool.noConfusion ((e3).symm.trans h)) (fun _ => ?_)
  conv => whnf
  refine caseb (fun h => Bool.noConfusion ((e4).symm.trans h)) (fun _ => ?_)
  conv => whnf
  refine caseb (fun h => Bool.noConfusion ((e5).symm.trans h)) (fun _ => ?_)
  conv => whnf
  refine caseb (fun h => Bool.noConfusion ((e6).symm.trans h)) (fun _ => ?_)
  conv => whnf
  refine caseb (fun h => Bool.noConfusion ((e7).symm.trans h)) (fun _ => ?_)
  conv => whnf
  refine caseb (fun h => Bool.noConfusion ((e8).symm.trans h)) (fun _ => ?_)
  conv => whnf
  refine caseb (fun h => Bool.noConfusion ((e9).symm.trans h)) (fun _ => ?_)
  conv => whnf
  refine caseb (fun h => Bool.noConfusion ((e10).symm.trans h)) (fun _ => ?_)
  conv => whnf
  refine caseb (fun h => Bool.noConfusion ((e11).symm.trans h)) (fun _ => ?_)
  repeat
    conv => whnf
    first
      | refine ⟨_, by assumption, ?_⟩
      | refine ⟨(Nat.le_of_ble_eq_true rfl), _, by assumption, ?_⟩
      | refine ⟨by kernel_rfl, ?_⟩
      | exact rfl
      | refine ⟨by decide, ?_⟩
theorem SMHas_ok (c : Int) : AC Try.prog 34 [.val (.int .i32 c)] (.pure (.val (.bool (decide (isOne c))))) := by
  refine AC.of_body TTok Try.func34 rfl (enter_of Try.func34 (by kernel_rfl) (by kernel_rfl)) (noid1 (.val _)) (.val _) (Nat.le_of_ble_eq_true rfl) ?_
  by_cases h0 : c = 43
  · subst h0
    rw [decide_eq_true (show isOne 43 by decide)]
    repeat
      conv => whnf
      first
        | refine ⟨_, by assumption, ?_⟩
        | refine ⟨(Nat.le_of_ble_eq_true rfl), _, by assumption, ?_⟩
        | refine ⟨by kernel_rfl, ?_⟩
        | exact rfl
        | refine ⟨by decide, ?_⟩
  by_cases h1 : c = 45
  · subst h1
    rw [decide_eq_true (show isOne 45 by decide)]
    repeat
      conv => whnf
      first
        | refine ⟨_, by assumption, ?_⟩
        | refine ⟨(Nat.le_of_ble_eq_true rfl), _, by assumption, ?_⟩
        | refine ⟨by kernel_rfl, ?_⟩
        | exact rfl
        | refine ⟨by decide, ?_⟩
  by_cases h2 : c = 215
  · subst h2
    rw [decide_eq_true (show isOne 215 by decide)]
    repeat
      conv => whnf
      first
        | refine ⟨_, by assumption, ?_⟩
        | refine ⟨(Nat.le_of_ble_eq_true rfl), _, by assumption, ?_⟩
        | refine ⟨by kernel_rfl, ?_⟩
        | exact rfl
        | refine ⟨by decide, ?_⟩
  by_cases h3 : c = 247
  · subst h3
    rw [decide_eq_true (show isOne 247 by decide)]
    repeat
      conv => whnf
      first
        | refine ⟨_, by assumption, ?_⟩
        | refine ⟨(Nat.le_of_ble_eq_true rfl), _, by assumption, ?_⟩
        | refine ⟨by kernel_rfl, ?_⟩
        | exact rfl
        | refine ⟨by decide, ?_⟩
  by_cases h4 : c = 8968
  · subst h4
    rw [decide_eq_true (show isOne 8968 by decide)]
    repeat
      conv => whnf
      first
        | refine ⟨_, by assumption, ?_⟩
        | refine ⟨(Nat.le_of_ble_eq_true rfl), _, by assumption, ?_⟩
        | refine ⟨by kernel_rfl, ?_⟩
        | exact rfl
        | refine ⟨by decide, ?_⟩
  by_cases h5 : c = 8970
  · subst h5
    rw [decide_eq_true (show isOne 8970 by decide)]
    repeat
      conv => whnf
      first
        | refine ⟨_, by assumption, ?_⟩
        | refine ⟨(Nat.le_of_ble_eq_true rfl), _, by assumption, ?_⟩
        | refine ⟨by kernel_rfl, ?_⟩
        | exact rfl
        | refine ⟨by decide, ?_⟩
  by_cases h6 : c = 124
  · subst h6
    rw [decide_eq_true (show isOne 124 by decide)]
    repeat
      conv => whnf
      first
        | refine ⟨_, by assumption, ?_⟩
        | refine ⟨(Nat.le_of_ble_eq_true rfl), _, by assumption, ?_⟩
        | refine ⟨by kernel_rfl, ?_⟩
        | exact rfl
        | refine ⟨by decide, ?_⟩
  by_cases h7 : c = 42
  · subst h7
    rw [decide_eq_true (show isOne 42 by decide)]
    repeat
      conv => whnf
      first
        | refine ⟨_, by assumption, ?_⟩
        | refine ⟨(Nat.le_of_ble_eq_true rfl), _, by assumption, ?_⟩
        | refine ⟨by kernel_rfl, ?_⟩
        | exact rfl
        | refine ⟨by decide, ?_⟩
  by_cases h8 : c = 33
  · subst h8
    rw [decide_eq_true (show isOne 33 by decide)]
    repeat
      conv => whnf
      first
        | refine ⟨_, by assumption, ?_⟩
        | refine ⟨(Nat.le_of_ble_eq_true rfl), _, by assumption, ?_⟩
        | refine ⟨by kernel_rfl, ?_⟩
        | exact rfl
        | refine ⟨by decide, ?_⟩
  by_cases h9 : c = 126
  · subst h9
    rw [decide_eq_true (show isOne 126 by decide)]
    repeat
      conv => whnf
      first
        | refine ⟨_, by assumption, ?_⟩
        | refine ⟨(Nat.le_of_ble_eq_true rfl), _, by assumption, ?_⟩
        | refine ⟨by kernel_rfl, ?_⟩
        | exact rfl
        | refine ⟨by decide, ?_⟩
  by_cases h10 : c = 9055
  · subst h10
    rw [decide_eq_true (show isOne 9055 by decide)]
    repeat
      conv => whnf
      first
        | refine ⟨_, by assumption, ?_⟩
        | refine ⟨(Nat.le_of_ble_eq_true rfl), _, by assumption, ?_⟩
        | refine ⟨by kernel_rfl, ?_⟩
        | exact rfl
        | refine ⟨by decide, ?_⟩
  by_cases h11 : c = 9675
  · subst h11
    rw [decide_eq_true (show isOne 9675 by decide)]
    repeat
      conv => whnf
      first
        | refine ⟨_, by assumption, ?_⟩
        | refine ⟨(Nat.le_of_ble_eq_true rfl), _, by assumption, ?_⟩
        | refine ⟨by kernel_rfl, ?_⟩
        | exact rfl
        | refine ⟨by decide, ?_⟩
  have e0 : (c == 43) = false := beq_false_of_ne h0
  have e1 : (c == 45) = false := beq_false_of_ne h1
  have e2 : (c == 215) = false := beq_false_of_ne h2
  have e3 : (c == 247) = false := beq_false_of_ne h3
  have e4 : (c == 8968) = false := beq_false_of_ne h4
  have e5 : (c == 8970) = false := beq_false_of_ne h5
  have e6 : (c == 124) = false := beq_false_of_ne h6
  have e7 : (c == 42) = false := beq_false_of_ne h7
  have e8 : (c == 33) = false := beq_false_of_ne h8
  have e9 : (c == 126) = false := beq_false_of_ne h9
  have e10 : (c == 9055) = false := beq_false_of_ne h10
  have e11 : (c == 9675) = false := beq_false_of_ne h11
  rw [decide_eq_false (show ¬ isOne c by unfold isOne; omega)]
  conv => whnf
  refine caseb (fun h => Bool.noConfusion ((e0).symm.trans h)) (fun _ => ?_)
  conv => whnf
  refine caseb (fun h => Bool.noConfusion ((e1).symm.trans h)) (fun _ => ?_)
  conv => whnf
  refine caseb (fun h => Bool.noConfusion ((e2).symm.trans h)) (fun _ => ?_)
  conv => whnf
  refine caseb (fun h => Bool.noConfusion ((e3).symm.trans h)) (fun _ => ?_)
  conv => whnf
  refine caseb (fun h => Bool.noConfusion ((e4).symm.trans h)) (fun _ => ?_)
  conv => whnf
  refine caseb (fun h => Bool.noConfusion ((e5).symm.trans h)) (fun _ => ?_)
  conv => whnf
  refine caseb (fun h => Bool.noConfusion ((e6).symm.trans h)) (fun _ => ?_)
  conv => whnf
  refine caseb (fun h => Bool.noConfusion ((e7).symm.trans h)) (fun _ => ?_)
  conv => whnf
  refine caseb (fun h => Bool.noConfusion ((e8).symm.trans h)) (fun _ => ?_)
  conv => whnf
  refine caseb (fun h => Bool.noConfusion ((e9).symm.trans h)) (fun _ => ?_)
  conv => whnf
  refine caseb (fun h => Bool.noConfusion ((e10).symm.trans h)) (fun _ => ?_)
  conv => whnf
  exact valB e11

/-- A number, if it is of at most so many limbs. -/
def withQ (x : Rat) (most : Int) : Rat × Int := if most < (qLimbs x.num x.den : Nat) then (0, 26) else (x, 0)
theorem RZ22 {P : Program} {f : FuncId} {args : List AV} {e : Int} (h : AC P f args (.pure (.tup [RZ, .val (.int .i64 e)]))) : AC P f args (.pure (.tup [RA 0 0, .val (.int .i64 e)])) :=
  AC.le_res h (.tup2 RZ_le (.refl _)) (.tup _ (noid2 (RA_noid _ _) (.val _)))
theorem within_big (x : Rat) (i : Nat) (most : Int) (hi : dn i = x.den) (h : most < (qLimbs x.num x.den : Nat)) : AC Try.prog 90 [RA x.num i, .val (.int .i64 most)] (.pure (.tup [RZ, .val (.int .i64 26)])) := by
  have hL := QLimbs_ok x.num i
  rw [hi] at hL
  have f1 : decide (((qLimbs x.num x.den : Nat) : Int) > most) = true := decide_eq_true h
  refine AC.of_body TTok Try.func90 rfl (enter_of Try.func90 (by kernel_rfl) (by kernel_rfl)) (noid2 (RA_noid _ _) (.val _)) (.tup _ (noid2 RZ_noid (.val _))) (Nat.le_of_ble_eq_true rfl) ?_
  generalize ((qLimbs x.num x.den : Nat) : Int) = n at *
  unfold RA RZ at *
  conv => whnf
  refine ⟨_, hL, ?_⟩
  conv => whnf
  refine caseb (fun _ => ?_) (fun h => Bool.noConfusion ((f1).symm.trans h))
  repeat
    conv => whnf
    first
      | refine ⟨_, by assumption, ?_⟩
      | refine ⟨(Nat.le_of_ble_eq_true rfl), _, by assumption, ?_⟩
      | refine ⟨by kernel_rfl, ?_⟩
      | exact rfl
      | refine ⟨by decide, ?_⟩
theorem within_fit (x : Rat) (i : Nat) (most : Int) (hi : dn i = x.den) (h : ¬ most < (qLimbs x.num x.den : Nat)) : AC Try.prog 90 [RA x.num i, .val (.int .i64 most)] (.pure (.tup [RA x.num i, .val (.int .i64 0)])) := by
  have hL := QLimbs_ok x.num i
  rw [hi] at hL
  have f1 : decide (((qLimbs x.num x.den : Nat) : Int) > most) = false := decide_eq_false h
  refine AC.of_body TTok Try.func90 rfl (enter_of Try.func90 (by kernel_rfl) (by kernel_rfl)) (noid2 (RA_noid _ _) (.val _)) (.tup _ (noid2 (RA_noid _ _) (.val _))) (Nat.le_of_ble_eq_true rfl) ?_
  generalize ((qLimbs x.num x.den : Nat) : Int) = n at *
  unfold RA at *
  conv => whnf
  refine ⟨_, hL, ?_⟩
  conv => whnf
  refine caseb (fun h => Bool.noConfusion ((f1).symm.trans h)) (fun _ => ?_)
  repeat
    conv => whnf
    first
      | refine ⟨_, by assumption, ?_⟩
      | refine ⟨(Nat.le_of_ble_eq_true rfl), _, by assumption, ?_⟩
      | refine ⟨by kernel_rfl, ?_⟩
      | exact rfl
      | refine ⟨by decide, ?_⟩
theorem within_ok (x : Rat) (i : Nat) (most : Int) (hi : dn i = x.den) : ∃ d, dn d = (withQ x most).1.den ∧ AC Try.prog 90 [RA x.num i, .val (.int .i64 most)] (.pure (.tup [RA (withQ x most).1.num d, .val (.int .i64 (withQ x most).2)])) := by
  unfold withQ
  by_cases h : most < (qLimbs x.num x.den : Nat)
  · rw [if_pos h]
    exact ⟨0, rfl, RZ22 (within_big x i most hi h)⟩
  · rw [if_neg h]
    exact ⟨i, hi, within_fit x i most hi h⟩
theorem Swithin_ok (x : Rat) (most : Int) (lx : Sz x 1000) : AC Try.prog 93 [RN x.num x.den, .val (.int .i64 most)] (.pure (.tup [RN (withQ x most).1.num (withQ x most).1.den, .val (.int .i64 (withQ x most).2)])) := by
  have hL := SLimbs_ok x.num x.den lx.1 lx.2
  have hZ := SZero_ok
  unfold withQ
  by_cases h : most < (qLimbs x.num x.den : Nat)
  · rw [if_pos h]
    have f1 : decide (((qLimbs x.num x.den : Nat) : Int) > most) = true := decide_eq_true h
    show AC Try.prog 93 _ (.pure (.tup [RN 0 1, .val (.int .i64 26)]))
    refine AC.of_body TTok Try.func93 rfl (enter_of Try.func93 (by kernel_rfl) (by kernel_rfl)) (noid2 (RN_noid _ _) (.val _)) (.tup _ (noid2 (RN_noid _ _) (.val _))) (Nat.le_of_ble_eq_true rfl) ?_
    generalize ((qLimbs x.num x.den : Nat) : Int) = n at *
    unfold RN at *
    conv => whnf
    refine ⟨_, hL, ?_⟩
    conv => whnf
    refine caseb (fun _ => ?_) (fun h => Bool.noConfusion ((f1).symm.trans h))
    repeat
      conv => whnf
      first
        | refine ⟨_, by assumption, ?_⟩
        | refine ⟨(Nat.le_of_ble_eq_true rfl), _, by assumption, ?_⟩
        | refine ⟨by kernel_rfl, ?_⟩
        | exact rfl
        | refine ⟨by decide, ?_⟩
  · rw [if_neg h]
    have f1 : decide (((qLimbs x.num x.den : Nat) : Int) > most) = false := decide_eq_false h
    refine AC.of_body TTok Try.func93 rfl (enter_of Try.func93 (by kernel_rfl) (by kernel_rfl)) (noid2 (RN_noid _ _) (.val _)) (.tup _ (noid2 (RN_noid _ _) (.val _))) (Nat.le_of_ble_eq_true rfl) ?_
    generalize ((qLimbs x.num x.den : Nat) : Int) = n at *
    unfold RN at *
    conv => whnf
    refine ⟨_, hL, ?_⟩
    conv => whnf
    refine caseb (fun h => Bool.noConfusion ((f1).symm.trans h)) (fun _ => ?_)
    repeat
      conv => whnf
      first
        | refine ⟨_, by assumption, ?_⟩
        | refine ⟨(Nat.le_of_ble_eq_true rfl), _, by assumption, ?_⟩
        | refine ⟨by kernel_rfl, ?_⟩
        | exact rfl
        | refine ⟨by decide, ?_⟩

/-- The truth turned about. -/
def notQ (x : Rat) : Rat × Int := if x = 0 then (1, 0) else if x = 1 then (0, 0) else (0, 22)
theorem not_ok (x : Rat) (i : Nat) (hi : dn i = x.den) : ∃ d, dn d = (notQ x).1.den ∧ AC Try.prog 92 [RA x.num i] (.pure (.tup [RA (notQ x).1.num d, .val (.int .i64 (notQ x).2)])) := by
  have hI := RInt_ok x.num i
  have F0 := RatFrom_ok 0 (by decide)
  have F1 := RatFrom_ok 1 (by decide)
  rw [hi] at hI
  unfold notQ
  by_cases h0 : x = 0
  · subst h0
    rw [if_pos ⟨rfl, by decide⟩, decide_eq_true (show fitQ (0 : Rat).num (0 : Rat).den from ⟨rfl, by decide⟩)] at hI
    rw [if_pos rfl]
    refine ⟨1, rfl, ?_⟩
    show AC Try.prog 92 _ (.pure (.tup [RA 1 1, .val (.int .i64 0)]))
    refine AC.of_body TTok Try.func92 rfl (enter_of Try.func92 (by kernel_rfl) (by kernel_rfl)) (noid1 (RA_noid _ _)) (.tup _ (noid2 (RA_noid _ _) (.val _))) (Nat.le_of_ble_eq_true rfl) ?_
    rw [show (0 : Rat).num = 0 from rfl] at hI ⊢
    unfold RA at *
    repeat
      conv => whnf
      first
        | refine ⟨_, by assumption, ?_⟩
        | refine ⟨(Nat.le_of_ble_eq_true rfl), _, by assumption, ?_⟩
        | refine ⟨by kernel_rfl, ?_⟩
        | exact rfl
        | refine ⟨by decide, ?_⟩
  rw [if_neg h0]
  by_cases h1 : x = 1
  · subst h1
    rw [if_pos ⟨rfl, by decide⟩, decide_eq_true (show fitQ (1 : Rat).num (1 : Rat).den from ⟨rfl, by decide⟩)] at hI
    rw [if_pos rfl]
    refine ⟨1, rfl, ?_⟩
    show AC Try.prog 92 _ (.pure (.tup [RA 0 1, .val (.int .i64 0)]))
    refine AC.of_body TTok Try.func92 rfl (enter_of Try.func92 (by kernel_rfl) (by kernel_rfl)) (noid1 (RA_noid _ _)) (.tup _ (noid2 (RA_noid _ _) (.val _))) (Nat.le_of_ble_eq_true rfl) ?_
    rw [show (1 : Rat).num = 1 from rfl] at hI ⊢
    unfold RA at *
    repeat
      conv => whnf
      first
        | refine ⟨_, by assumption, ?_⟩
        | refine ⟨(Nat.le_of_ble_eq_true rfl), _, by assumption, ?_⟩
        | refine ⟨by kernel_rfl, ?_⟩
        | exact rfl
        | refine ⟨by decide, ?_⟩
  rw [if_neg h1]
  refine ⟨0, rfl, RZ22 ?_⟩
  refine AC.of_body TTok Try.func92 rfl (enter_of Try.func92 (by kernel_rfl) (by kernel_rfl)) (noid1 (RA_noid _ _)) (.tup _ (noid2 RZ_noid (.val _))) (Nat.le_of_ble_eq_true rfl) ?_
  by_cases hf : fitQ x.num x.den
  · rw [if_pos hf, decide_eq_true hf] at hI
    have f0 : (x.num != 0) = true := bne_iff_ne.2 (num_ne h0)
    have f1 : (x.num != 1) = true := bne_iff_ne.2 (fun e => h1 (Rat.ext e hf.1))
    generalize x.num = n at *
    unfold RA RZ at *
    conv => whnf
    refine ⟨_, hI, ?_⟩
    conv => whnf
    refine caseb (fun _ => ?_) (fun h => Bool.noConfusion ((f0).symm.trans h))
    conv => whnf
    refine caseb (fun _ => ?_) (fun h => Bool.noConfusion ((f1).symm.trans h))
    repeat
      conv => whnf
      first
        | refine ⟨_, by assumption, ?_⟩
        | refine ⟨(Nat.le_of_ble_eq_true rfl), _, by assumption, ?_⟩
        | refine ⟨by kernel_rfl, ?_⟩
        | exact rfl
        | refine ⟨by decide, ?_⟩
  · rw [if_neg hf, decide_eq_false hf] at hI
    generalize x.num = n at *
    unfold RA RZ at *
    repeat
      conv => whnf
      first
        | refine ⟨_, by assumption, ?_⟩
        | refine ⟨(Nat.le_of_ble_eq_true rfl), _, by assumption, ?_⟩
        | refine ⟨by kernel_rfl, ?_⟩
        | exact rfl
        | refine ⟨by decide, ?_⟩

end Go.Proofs.Ytabgankeaagibaa

/- Functions of one number: the product of all whole numbers up to one. -/
set_option linter.unusedVariables false
namespace Go.Proofs.Ytabgankeaagibaa
open Go Go.AL NM

def fac : Nat → Nat
  | 0 => 1
  | i + 1 => fac i * (i + 1)
theorem fac_pos : ∀ i, 1 ≤ fac i
  | 0 => Nat.le_refl _
  | i + 1 => Nat.mul_le_mul (fac_pos i) (show 1 ≤ i + 1 by omega)
theorem fac_mono1 (i : Nat) : fac i ≤ fac (i + 1) := Nat.le_mul_of_pos_right _ (by omega)
theorem fac_mono {i j : Nat} (h : i ≤ j) : fac i ≤ fac j := by
  induction h with
  | refl => exact Nat.le_refl _
  | step _ ih => exact Nat.le_trans ih (fac_mono1 _)
theorem fac_big : ∀ i, 2 ^ i ≤ fac (i + 1)
  | 0 => Nat.le_refl _
  | i + 1 => by
    have ih := fac_big i
    rw [show fac (i + 1 + 1) = fac (i + 1) * (i + 1 + 1) from rfl, Nat.pow_succ]
    exact Nat.mul_le_mul ih (by omega)
theorem fac_bound {i : Nat} (hl : (limbs (fac i)).length ≤ 200) : i ≤ 6401 := by
  cases i with
  | zero => omega
  | succ i =>
    have h1 := fac_big i
    have h2 := val_lt (limbs_lim (fac (i + 1)))
    rw [val_limbs, pow32] at h2
    have h3 : 2 ^ i < 2 ^ (32 * (limbs (fac (i + 1))).length) := Nat.lt_of_le_of_lt h1 h2
    have := (Nat.pow_lt_pow_iff_right (by decide : 1 < 2)).1 h3
    omega
theorem fac_limbs (n : Nat) : qLimbs (((fac n : Nat) : Int) : Rat).num (((fac n : Nat) : Int) : Rat).den = (limbs (fac n)).length := by
  show max (limbs (((fac n : Nat) : Int)).natAbs).length (limbs 1).length = _
  rw [Int.natAbs_natCast]
  have := limbs_len_mono (fac_pos n)
  omega

def natQ (q : Rat) : Prop := q.den = 1 ∧ 0 ≤ q.num
instance (q : Rat) : Decidable (natQ q) := inferInstanceAs (Decidable (_ ∧ _))
/-- The product of all whole numbers from 1 up to a number. -/
def facQ (x : Rat) (most : Int) : Rat × Int := if natQ x then withQ (((fac x.num.toNat : Nat) : Int) : Rat) most else (0, 22)
theorem facQ_is {x : Rat} {k : Nat} (hd : x.den = 1) (hk : x.num = (k : Int)) (most : Int) : facQ x most = withQ (((fac k : Nat) : Int) : Rat) most := by
  unfold facQ
  rw [if_pos ⟨hd, by omega⟩, show x.num.toNat = k by omega]
theorem with_not {k j : Nat} {most : Int} (hjk : j ≤ k) (h : most < ((limbs (fac j)).length : Int)) : withQ (((fac k : Nat) : Int) : Rat) most = (0, 26) := by
  unfold withQ
  rw [if_pos]
  rw [fac_limbs]
  have := limbs_len_mono (fac_mono hjk)
  omega
theorem sigW_pos {n : Int} (h : 0 ≤ n) : decide (sigW n < 0) = false := decide_eq_false (by unfold sigW; split <;> (try split) <;> omega)
theorem sigW_neg {n : Int} (h : n < 0) : decide (sigW n < 0) = true := decide_eq_true (by unfold sigW; split <;> (try split) <;> omega)

theorem Fac_none (x : Rat) (i : Nat) (most : Int) (hi : dn i = x.den) (h : ¬ natQ x) : AC Try.prog 91 [RA x.num i, .val (.int .i64 most)] (.pure (.tup [RA 0 0, .val (.int .i64 22)])) := by
  refine RZ22 ?_
  have hW := IsWhole_ok x.num i
  have hS := RaSign_ok x.num i
  rw [hi] at hW
  refine AC.of_body TTok Try.func91 rfl (enter_of Try.func91 (by kernel_rfl) (by kernel_rfl)) (noid2 (RA_noid _ _) (.val _)) (.tup _ (noid2 RZ_noid (.val _))) (Nat.le_of_ble_eq_true rfl) ?_
  by_cases hd : x.den = 1
  · rw [decide_eq_true hd] at hW
    have f1 := sigW_neg (show x.num < 0 from Decidable.of_not_not (fun hn => h ⟨hd, by omega⟩))
    generalize sigW x.num = s at *
    unfold RA RZ at *
    conv => whnf
    refine ⟨_, hW, ?_⟩
    conv => whnf
    refine ⟨_, hS, ?_⟩
    conv => whnf
    refine caseb (fun _ => ?_) (fun h => Bool.noConfusion ((f1).symm.trans h))
    repeat
      conv => whnf
      first
        | refine ⟨_, by assumption, ?_⟩
        | refine ⟨(Nat.le_of_ble_eq_true rfl), _, by assumption, ?_⟩
        | refine ⟨by kernel_rfl, ?_⟩
        | exact rfl
        | refine ⟨by decide, ?_⟩
  · rw [decide_eq_false hd] at hW
    unfold RA RZ at *
    repeat
      conv => whnf
      first
        | refine ⟨_, by assumption, ?_⟩
        | refine ⟨(Nat.le_of_ble_eq_true rfl), _, by assumption, ?_⟩
        | refine ⟨by kernel_rfl, ?_⟩
        | exact rfl
        | refine ⟨by decide, ?_⟩
theorem wrap_succ {j : Nat} (h : j ≤ 7000) : IntKind.u64.wrap ((j : Int) + 1) = ((j + 1 : Nat) : Int) := by
  simp only [IntKind.wrap_u64]
  omega
theorem Fac_gen (x : Rat) (i : Nat) (most : Int) (hi : dn i = 1) (hx : x.den = 1) (hm : most ≤ 200) (k : Nat) (hk : x.num = (k : Int)) (res : AV) (hno : NoId res)
    (r1 : most < ((limbs (fac k)).length : Int) → AV.tup [RZ, .val (.int .i64 26)] = res)
    (r2 : ¬ most < ((limbs (fac k)).length : Int) → AV.tup [RA ((fac k : Nat) : Int) 1, .val (.int .i64 0)] = res) :
    AC Try.prog 91 [RA x.num i, .val (.int .i64 most)] (.pure res) := by
  have hW := IsWhole_ok x.num i
  rw [hi, decide_eq_true rfl] at hW
  have hS := RaSign_ok x.num i
  have fS := sigW_pos (show 0 ≤ x.num by omega)
  have hI := RInt_ok x.num i
  rw [hi] at hI
  obtain ⟨v, ok, hI, hv⟩ : ∃ v ok, AC Try.prog 48 [RA x.num i] (.pure (.tup [.val (.int .i64 v), .val (.bool ok)])) ∧ ((ok = true ∧ v = (k : Int)) ∨ (ok = false ∧ 6500 < k)) := by
    by_cases hf : fit x.num
    · rw [if_pos ⟨rfl, hf⟩, decide_eq_true (show fitQ x.num 1 from ⟨rfl, hf⟩)] at hI
      exact ⟨_, _, hI, .inl ⟨rfl, hk⟩⟩
    · rw [if_neg (fun h => hf h.2), decide_eq_false (show ¬ fitQ x.num 1 from fun h => hf h.2)] at hI
      exact ⟨_, _, hI, .inr ⟨rfl, by unfold fit at hf; omega⟩⟩
  have hO1 := Of_ok 1 (by decide)
  have hOf := WOf_ok false (fac k)
  rw [show sgn false (fac k) = ((fac k : Nat) : Int) from rfl] at hOf
  have hWh := Whole_ok ((fac k : Nat) : Int)
  have hB := within_big (((fac k : Nat) : Int) : Rat) 1 most rfl
  have hF := within_fit (((fac k : Nat) : Int) : Rat) 1 most rfl
  rw [fac_limbs, show ((((fac k : Nat) : Int) : Rat)).num = ((fac k : Nat) : Int) from rfl] at hB hF
  refine AC.of_body TTok Try.func91 rfl (enter_of Try.func91 (by kernel_rfl) (by kernel_rfl)) (noid2 (RA_noid _ _) (.val _)) hno (Nat.le_of_ble_eq_true rfl) ?_
  clear hk hx
  generalize sigW x.num = sg at *
  generalize x.num = n at *
  unfold RA RZ WI natA at *
  conv => whnf
  refine ⟨_, hW, ?_⟩
  conv => whnf
  refine ⟨_, hS, ?_⟩
  conv => whnf
  refine caseb (fun h => Bool.noConfusion ((fS).symm.trans h)) (fun _ => ?_)
  conv => whnf
  refine ⟨_, hO1, ?_⟩
  conv => whnf
  refine ⟨_, hI, ?_⟩
  conv => whnf
  refine SW.loopM TTok (fun j : Nat => [(1, .val (.int .i64 most)), (4, .lp 8 0), (6, .lp 96 0), (7, .val (.int .i64 v)), (8, .val (.bool ok)), (9, .val (.int .i64 ((j : Int) + 1)))])
    (fun j => [(8, .cells 3 [[.sl 0 [] true, .val (.bool false), .sl 0 [] true]]), (96, .cells 1 [[.sl 1 (irows .u32 (limbs (fac j))) false]])]) 176 51 rfl (fun j => 6500 - j)
    (fun j => j ≤ k ∧ (j = 0 ∨ ((limbs (fac j)).length : Int) ≤ most)) 0 [] ⟨Nat.zero_le _, .inl rfl⟩
    ⟨⟨rfl, rfl⟩, ⟨rfl, rfl⟩, ⟨rfl, rfl⟩, ⟨rfl, rfl⟩, ⟨rfl, rfl⟩, ⟨rfl, rfl⟩, trivial⟩ ⟨⟨rfl, .inr ⟨rfl, rfl⟩⟩, ⟨rfl, .inr ⟨rfl, rfl⟩⟩, trivial⟩ rfl ?_
  intro j hJ
  have hj1 : j ≤ k := hJ.1
  have hj2 : j = 0 ∨ ((limbs (fac j)).length : Int) ≤ most := hJ.2
  clear hJ
  have lc : (limbs (fac j)).length ≤ 200 := by
    rcases hj2 with h | h
    · subst h; exact Nat.le_trans (limbs_small (n := 1) (by decide)) (by decide)
    · omega
  have hjb := fac_bound lc
  have lj : (limbs (j + 1)).length ≤ 1 := limbs_small (by omega)
  have hOj := Of_ok (j + 1) (by omega)
  rw [← wrap_succ (show j ≤ 7000 by omega)] at hOj
  have hMu := Mul_ok (fac j) (j + 1) (by omega)
  rw [show fac j * (j + 1) = fac (j + 1) from rfl] at hMu
  have hLim := Limbs_ok (fac (j + 1))
  clear lc lj
  unfold natA at *
  rcases hv with ⟨rfl, rfl⟩ | ⟨rfl, hbig⟩
  · conv => whnf
    refine caseb (fun h4 => ?_) (fun h4 => ?_)
    · have h4' : (j : Int) + 1 ≤ (k : Int) := of_decide_eq_true h4
      conv => whnf
      refine ⟨_, hOj, ?_⟩
      conv => whnf
      refine ⟨_, hMu, ?_⟩
      conv => whnf
      refine ⟨by kernel_rfl, ?_⟩
      conv => whnf
      refine ⟨_, hLim, ?_⟩
      conv => whnf
      refine caseb (fun h5 => ?_) (fun h5 => ?_)
      · have h5' : ((limbs (fac (j + 1))).length : Int) > most := of_decide_eq_true h5
        have hmo := limbs_len_mono (fac_mono (show j + 1 ≤ k by omega))
        conv => whnf
        exact r1 (by omega)
      · have h5' : ¬ ((limbs (fac (j + 1))).length : Int) > most := of_decide_eq_false h5
        conv => whnf
        refine ⟨j + 1, [], (by show 6500 - (j + 1) < 6500 - j; omega), ⟨(by show j + 1 ≤ k; omega), .inr (by show ((limbs (fac (j + 1))).length : Int) ≤ most; omega)⟩, ⟨⟨rfl, rfl⟩, ⟨rfl, rfl⟩, ⟨rfl, rfl⟩, ⟨rfl, rfl⟩, ⟨rfl, rfl⟩, ⟨valI ?_, rfl⟩, trivial⟩, ⟨⟨rfl, .inr ⟨rfl, rfl⟩⟩, ⟨rfl, .inr ⟨rfl, rfl⟩⟩, trivial⟩, rfl⟩
        show IntKind.i64.wrap ((j : Int) + 1 + 1) = ((j + 1 : Nat) : Int) + 1
        rw [IntWalk.i64_in _ (by omega)]; omega
    · have h4' : ¬ (j : Int) + 1 ≤ (k : Int) := of_decide_eq_false h4
      have hjk : j = k := by omega
      subst hjk
      by_cases h6 : most < ((limbs (fac j)).length : Int)
      · have hB := hB h6
        conv => whnf
        refine ⟨_, hOf, ?_⟩
        conv => whnf
        refine ⟨_, hWh, ?_⟩
        conv => whnf
        refine ⟨_, hB, ?_⟩
        conv => whnf
        exact r1 h6
      · have hF := hF h6
        conv => whnf
        refine ⟨_, hOf, ?_⟩
        conv => whnf
        refine ⟨_, hWh, ?_⟩
        conv => whnf
        refine ⟨_, hF, ?_⟩
        conv => whnf
        exact r2 h6
  · have h4' : (j : Int) + 1 ≤ (k : Int) := by omega
    conv => whnf
    refine ⟨_, hOj, ?_⟩
    conv => whnf
    refine ⟨_, hMu, ?_⟩
    conv => whnf
    refine ⟨by kernel_rfl, ?_⟩
    conv => whnf
    refine ⟨_, hLim, ?_⟩
    conv => whnf
    refine caseb (fun h5 => ?_) (fun h5 => ?_)
    · have h5' : ((limbs (fac (j + 1))).length : Int) > most := of_decide_eq_true h5
      have hmo := limbs_len_mono (fac_mono (show j + 1 ≤ k by omega))
      conv => whnf
      exact r1 (by omega)
    · have h5' : ¬ ((limbs (fac (j + 1))).length : Int) > most := of_decide_eq_false h5
      conv => whnf
      refine ⟨j + 1, [], (by show 6500 - (j + 1) < 6500 - j; omega), ⟨(by show j + 1 ≤ k; omega), .inr (by show ((limbs (fac (j + 1))).length : Int) ≤ most; omega)⟩, ⟨⟨rfl, rfl⟩, ⟨rfl, rfl⟩, ⟨rfl, rfl⟩, ⟨rfl, rfl⟩, ⟨rfl, rfl⟩, ⟨valI ?_, rfl⟩, trivial⟩, ⟨⟨rfl, .inr ⟨rfl, rfl⟩⟩, ⟨rfl, .inr ⟨rfl, rfl⟩⟩, trivial⟩, rfl⟩
      show IntKind.i64.wrap ((j : Int) + 1 + 1) = ((j + 1 : Nat) : Int) + 1
      rw [IntWalk.i64_in _ (by omega)]; omega

theorem Fac_ok (x : Rat) (i : Nat) (most : Int) (hi : dn i = x.den) (hm : most ≤ 200) : ∃ d, dn d = (facQ x most).1.den ∧ AC Try.prog 91 [RA x.num i, .val (.int .i64 most)] (.pure (.tup [RA (facQ x most).1.num d, .val (.int .i64 (facQ x most).2)])) := by
  by_cases hn : natQ x
  · obtain ⟨k, hk⟩ : ∃ k : Nat, x.num = (k : Int) := ⟨x.num.toNat, by have := hn.2; omega⟩
    rw [facQ_is hn.1 hk]
    have hq := fac_limbs k
    unfold withQ
    rw [hq]
    have hi := hi.trans hn.1
    by_cases h : most < ((limbs (fac k)).length : Int)
    · rw [if_pos h]
      exact ⟨0, rfl, RZ22 (Fac_gen x i most hi hn.1 hm k hk _ (.tup _ (noid2 RZ_noid (.val _))) (fun _ => rfl) (fun h' => absurd h h'))⟩
    · rw [if_neg h]
      exact ⟨1, rfl, Fac_gen x i most hi hn.1 hm k hk _ (.tup _ (noid2 (RA_noid _ _) (.val _))) (fun h' => absurd h' h) (fun _ => rfl)⟩
  · rw [show facQ x most = (0, 22) from if_neg hn]
    exact ⟨0, rfl, Fac_none x i most hi hn⟩

theorem decS_eq (n m : Nat) : ((decS n).toList == (decS m).toList) = decide (n = m) :=
  (decS_is n (decL m) (fun x hx => by have := decL_byt m x hx; omega)).trans (decide_eq_decide.2 ⟨fun h => decL_inj h, fun h => by rw [h]⟩)
theorem SFac_ok (x : Rat) (most : Int) (hm : most ≤ 200) (hx : x.den = 1) (k : Nat) (hk : x.num = (k : Int)) (lk : Sz x 200) : AC Try.prog 94 [RN x.num x.den, .val (.int .i64 most)] (.pure (.tup [RN (withQ (((fac k : Nat) : Int) : Rat) most).1.num (withQ (((fac k : Nat) : Int) : Rat) most).1.den, .val (.int .i64 (withQ (((fac k : Nat) : Int) : Rat) most).2)])) := by
  have hZ := SZero_ok
  have hk' : x.num.natAbs = k := by omega
  have hW := Swithin_ok (((fac k : Nat) : Int) : Rat) most
  rw [show (((fac k : Nat) : Int) : Rat).num = ((fac k : Nat) : Int) from rfl, show (((fac k : Nat) : Int) : Rat).den = 1 from rfl] at hW
  obtain ⟨q, e, hr⟩ : ∃ q e, withQ (((fac k : Nat) : Int) : Rat) most = (q, e) := ⟨_, _, rfl⟩
  rw [hr] at hW ⊢
  simp only at hW ⊢
  have r1 : ∀ j, j ≤ k → most < ((limbs (fac j)).length : Int) → AV.tup [RN 0 1, .val (.int .i64 26)] = AV.tup [RN q.num q.den, .val (.int .i64 e)] := fun j hj h => by
    have := with_not hj h
    rw [hr] at this
    obtain ⟨rfl, rfl⟩ := Prod.mk.inj this
    rfl
  have r2 : (limbs (fac k)).length ≤ 200 → AC Try.prog 93 [RN ((fac k : Nat) : Int) 1, .val (.int .i64 most)] (.pure (.tup [RN q.num q.den, .val (.int .i64 e)])) := fun h =>
    hW (Sz_int (by decide) (by rw [Int.natAbs_natCast]; omega))
  have e2 : RN ((fac k : Nat) : Int) 1 = .agg [.val (.bool false), .val (.string (decS (fac k))), .val (.string { data := #[49] })] := by
    unfold RN
    rw [decS_one, decide_eq_false (show ¬ ((fac k : Nat) : Int) < 0 by omega), Int.natAbs_natCast]
  rw [e2] at r2
  clear hr e2 hW
  have lk := lk.1
  rw [hk'] at lk
  obtain ⟨z, hz⟩ : ∃ z : Nat → Int, ∀ j, z j = (j : Int) := ⟨_, fun j => rfl⟩
  refine AC.of_body TTok Try.func94 rfl (enter_of Try.func94 (by kernel_rfl) (by kernel_rfl)) (noid2 (RN_noid _ _) (.val _)) (.tup _ (noid2 (RN_noid _ _) (.val _))) (Nat.le_of_ble_eq_true rfl) ?_
  generalize q.num = qn at *
  generalize q.den = qd at *
  unfold RN at *
  rw [hk']
  conv => whnf
  refine SW.loopM TTok (fun j : Nat => [(1, .val (.int .i64 most)), (2, .lp 0 0), (4, .lp 8 0), (6, .val (.string (decS (fac j)))), (7, .val (.string (decS j))), (8, .val (.int .i64 (z j)))])
    (fun j => [(0, .cells 3 [[.val (.bool (decide (x.num < 0))), .val (.string (decS k)), .val (.string (decS x.den))]]), (8, .cells 3 [[.val (.bool false), .val (.string ByteArray.empty), .val (.string ByteArray.empty)]])]) 48 35 rfl (fun j => 6500 - j)
    (fun j => j ≤ k ∧ (j = 0 ∨ ((limbs (fac j)).length : Int) ≤ most)) 0 [] ⟨Nat.zero_le _, .inl rfl⟩
    ⟨⟨rfl, rfl⟩, ⟨rfl, rfl⟩, ⟨rfl, rfl⟩, ⟨strE decS_one.symm, rfl⟩, ⟨strE decS_zero.symm, rfl⟩, ⟨valI (hz 0).symm, rfl⟩, trivial⟩ ⟨⟨rfl, .inr ⟨rfl, rfl⟩⟩, ⟨rfl, .inr ⟨rfl, rfl⟩⟩, trivial⟩ rfl ?_
  intro j hJ
  have hj1 : j ≤ k := hJ.1
  have hj2 : j = 0 ∨ ((limbs (fac j)).length : Int) ≤ most := hJ.2
  clear hJ
  have lc : (limbs (fac j)).length ≤ 200 := by
    rcases hj2 with h | h
    · subst h; exact Nat.le_trans (limbs_small (n := 1) (by decide)) (by decide)
    · omega
  have hjb := fac_bound lc
  have fn : decide (z j < 100000) = true := decide_eq_true (by rw [hz]; omega)
  have ek := decS_eq j k
  by_cases hjk : j = k
  · rw [decide_eq_true hjk] at ek
    have fk : (!((decS j).toList == (decS k).toList)) = false := by rw [ek]; rfl
    have hP := r2 (by rw [← hjk]; exact lc)
    rw [← hjk] at hP
    conv => whnf
    refine caseb (fun _ => ?_) (fun h => Bool.noConfusion ((fn).symm.trans h))
    conv => whnf
    refine caseb (fun h => Bool.noConfusion ((fk).symm.trans h)) (fun _ => ?_)
    conv => whnf
    refine ⟨_, hP, ?_⟩
    conv => whnf
    exact rfl
  · rw [decide_eq_false hjk] at ek
    have fk : (!((decS j).toList == (decS k).toList)) = true := by rw [ek]; rfl
    have lj1 := limbs_small (n := j + 1) (by omega)
    have lj := limbs_small (n := j) (by omega)
    have dj := decL_le j
    have dj1 := decL_le (j + 1)
    have d1 := decL_le 1
    have l1' := limbs_small (n := 1) (by decide)
    have dc := decL_le (fac j)
    have lcm := limbs_mul (fac j) (j + 1)
    have hA1 := RAdd_ok j 1 (by omega)
    rw [decS_one] at hA1
    have hM := RMul_ok (fac j) (j + 1) (by omega)
    rw [show fac j * (j + 1) = fac (j + 1) from rfl] at hM lcm
    have hble := blen_limbs' (fac (j + 1))
    have dcs := decL_le (fac (j + 1))
    have hLi := RLimbs_ok (fac (j + 1)) (by omega) (by omega)
    conv => whnf
    refine caseb (fun _ => ?_) (fun h => Bool.noConfusion ((fn).symm.trans h))
    conv => whnf
    refine caseb (fun _ => ?_) (fun h => Bool.noConfusion ((fk).symm.trans h))
    conv => whnf
    refine ⟨_, hA1, ?_⟩
    conv => whnf
    refine ⟨_, hM, ?_⟩
    conv => whnf
    refine ⟨_, hLi, ?_⟩
    conv => whnf
    refine caseb (fun h5 => ?_) (fun h5 => ?_)
    · have h5' : ((limbs (fac (j + 1))).length : Int) > most := of_decide_eq_true h5
      conv => whnf
      refine ⟨_, hZ, ?_⟩
      conv => whnf
      exact r1 (j + 1) (by omega) h5'
    · have h5' : ¬ ((limbs (fac (j + 1))).length : Int) > most := of_decide_eq_false h5
      conv => whnf
      refine ⟨j + 1, [], (by show 6500 - (j + 1) < 6500 - j; omega), ⟨(by show j + 1 ≤ k; omega), .inr (by show ((limbs (fac (j + 1))).length : Int) ≤ most; omega)⟩, ⟨⟨rfl, rfl⟩, ⟨rfl, rfl⟩, ⟨rfl, rfl⟩, ⟨rfl, rfl⟩, ⟨rfl, rfl⟩, ⟨valI ?_, rfl⟩, trivial⟩, ⟨⟨rfl, .inr ⟨rfl, rfl⟩⟩, ⟨rfl, .inr ⟨rfl, rfl⟩⟩, trivial⟩, rfl⟩
      show IntKind.i64.wrap (z j + 1) = z (j + 1)
      rw [hz, hz, IntWalk.i64_in _ (by omega)]; omega

end Go.Proofs.Ytabgankeaagibaa

/- Functions of one number: all of them. -/
set_option linter.unusedVariables false
namespace Go.Proofs.Ytabgankeaagibaa
open Go Go.AL NM

/-- What a function makes of one number. -/
def monoQ (c : Int) (x : Rat) (most : Int) : Rat × Int :=
  if c = 43 then withQ x most
  else if c = 45 then withQ (-x) most
  else if c = 215 then withQ ((sigW x.num : Int) : Rat) most
  else if c = 247 then (if x = 0 then (0, 22) else withQ (1 / x) most)
  else if c = 8968 then withQ ((x.ceil : Int) : Rat) most
  else if c = 8970 then withQ ((x.floor : Int) : Rat) most
  else if c = 124 then withQ (if x.num < 0 then -x else x) most
  else if c = 33 then facQ x most
  else if c = 126 then notQ x
  else if isOne c then (0, 22) else (0, 20)
theorem inv_sgn (q : Rat) : decide ((1 / q).num < 0) = decide (q.num < 0) := by
  have h : 1 / q = Rat.divInt (q.den : Int) q.num := by
    rw [← q_div, show (1 : Rat).num = 1 from rfl, show (1 : Rat).den = 1 from rfl, Int.one_mul, Int.natCast_one, Int.one_mul]
  by_cases h0 : q.num = 0
  · rw [h, h0, Rat.divInt_zero]; rfl
  · rw [h, sgn_num _ _ h0, sgn_neg]
    have hd := q.den_nz
    have hg : ¬ (q.den : Int).natAbs / Nat.gcd (q.den : Int).natAbs q.num.natAbs = 0 := by
      rw [Int.natAbs_natCast]
      have := Nat.gcd_le_left q.num.natAbs (Nat.pos_of_ne_zero hd)
      have := Nat.div_pos this (Nat.gcd_pos_of_pos_left _ (Nat.pos_of_ne_zero hd))
      omega
    rw [decide_eq_false hg, decide_eq_false (show ¬ (q.den : Int) < 0 by omega)]
    cases decide (q.num < 0) <;> rfl
theorem sig_small (n : Int) : -9223372036854775808 ≤ sigW n ∧ sigW n < 9223372036854775808 := by unfold sigW; split <;> (try split) <;> omega
theorem sig_ne {q : Rat} (h : q ≠ 0) : (sigW q.num == 0) = false := beq_false_of_ne (by unfold sigW; rw [if_neg (num_ne h)]; split <;> decide)
theorem sig_lt {n : Int} : decide (sigW n < 0) = decide (n < 0) := by
  by_cases h : n < 0
  · rw [decide_eq_true h, sigW_neg h]
  · rw [decide_eq_false h, sigW_pos (by omega)]
theorem ceil_floor (x : Rat) : x.ceil = -(-x).floor := Rat.ceil_eq_neg_floor_neg x

theorem One43 (x : Rat) (i : Nat) (most : Int) (hi : dn i = x.den) (hm : most ≤ 200) (lx : Sz x 90) : ∃ d, dn d = (monoQ 43 x most).1.den ∧ AC Try.prog 31 [.val (.int .i32 43), RA x.num i, .val (.int .i64 most)] (.pure (.tup [RA (monoQ 43 x most).1.num d, .val (.int .i64 (monoQ 43 x most).2)])) := by
  rw [show monoQ 43 x most = withQ x most from rfl]
  obtain ⟨d, hd, hP⟩ := within_ok x i most hi
  refine ⟨d, hd, ?_⟩
  refine AC.of_body TTok Try.func31 rfl (enter_of Try.func31 (by kernel_rfl) (by kernel_rfl)) (noid3 (.val _) (RA_noid _ _) (.val _)) (.tup _ (noid2 (RA_noid _ _) (.val _))) (Nat.le_of_ble_eq_true rfl) ?_
  revert hP
  generalize (withQ x most).1 = r
  generalize (withQ x most).2 = e
  intro hP
  unfold RA at *
  repeat
    conv => whnf
    first
      | refine ⟨_, by assumption, ?_⟩
      | refine ⟨(Nat.le_of_ble_eq_true rfl), _, by assumption, ?_⟩
      | refine ⟨by kernel_rfl, ?_⟩
      | exact rfl
      | refine ⟨by decide, ?_⟩

theorem One45 (x : Rat) (i : Nat) (most : Int) (hi : dn i = x.den) (hm : most ≤ 200) (lx : Sz x 90) : ∃ d, dn d = (monoQ 45 x most).1.den ∧ AC Try.prog 31 [.val (.int .i32 45), RA x.num i, .val (.int .i64 most)] (.pure (.tup [RA (monoQ 45 x most).1.num d, .val (.int .i64 (monoQ 45 x most).2)])) := by
  rw [show monoQ 45 x most = withQ (-x) most from rfl]
  have hM := QMinus_ok x.num i
  rw [hi] at hM
  have hM : AC Try.prog 43 [RA x.num i] (.pure (RA (-x).num x.den)) := hM
  obtain ⟨d, hd, hP⟩ := within_ok (-x) x.den most (dn_den x)
  refine ⟨d, hd, ?_⟩
  refine AC.of_body TTok Try.func31 rfl (enter_of Try.func31 (by kernel_rfl) (by kernel_rfl)) (noid3 (.val _) (RA_noid _ _) (.val _)) (.tup _ (noid2 (RA_noid _ _) (.val _))) (Nat.le_of_ble_eq_true rfl) ?_
  revert hP
  generalize (withQ (-x) most).1 = r
  generalize (withQ (-x) most).2 = e
  intro hP
  generalize -x = y at *
  unfold RA at *
  repeat
    conv => whnf
    first
      | refine ⟨_, by assumption, ?_⟩
      | refine ⟨(Nat.le_of_ble_eq_true rfl), _, by assumption, ?_⟩
      | refine ⟨by kernel_rfl, ?_⟩
      | exact rfl
      | refine ⟨by decide, ?_⟩

theorem One215 (x : Rat) (i : Nat) (most : Int) (hi : dn i = x.den) (hm : most ≤ 200) (lx : Sz x 90) : ∃ d, dn d = (monoQ 215 x most).1.den ∧ AC Try.prog 31 [.val (.int .i32 215), RA x.num i, .val (.int .i64 most)] (.pure (.tup [RA (monoQ 215 x most).1.num d, .val (.int .i64 (monoQ 215 x most).2)])) := by
  rw [show monoQ 215 x most = withQ ((sigW x.num : Int) : Rat) most from rfl]
  have hS := RaSign_ok x.num i
  have hF := RatFrom_ok (sigW x.num) (sig_small _)
  obtain ⟨d, hd, hP⟩ := within_ok ((sigW x.num : Int) : Rat) 1 most rfl
  refine ⟨d, hd, ?_⟩
  refine AC.of_body TTok Try.func31 rfl (enter_of Try.func31 (by kernel_rfl) (by kernel_rfl)) (noid3 (.val _) (RA_noid _ _) (.val _)) (.tup _ (noid2 (RA_noid _ _) (.val _))) (Nat.le_of_ble_eq_true rfl) ?_
  revert hP
  generalize (withQ ((sigW x.num : Int) : Rat) most).1 = r
  generalize (withQ ((sigW x.num : Int) : Rat) most).2 = e
  intro hP
  rw [show (((sigW x.num : Int) : Rat)).num = sigW x.num from rfl] at hP
  generalize sigW x.num = s at *
  unfold RA at *
  repeat
    conv => whnf
    first
      | refine ⟨_, by assumption, ?_⟩
      | refine ⟨(Nat.le_of_ble_eq_true rfl), _, by assumption, ?_⟩
      | refine ⟨by kernel_rfl, ?_⟩
      | exact rfl
      | refine ⟨by decide, ?_⟩

theorem One247 (x : Rat) (i : Nat) (most : Int) (hi : dn i = x.den) (hm : most ≤ 200) (lx : Sz x 90) : ∃ d, dn d = (monoQ 247 x most).1.den ∧ AC Try.prog 31 [.val (.int .i32 247), RA x.num i, .val (.int .i64 most)] (.pure (.tup [RA (monoQ 247 x most).1.num d, .val (.int .i64 (monoQ 247 x most).2)])) := by
  rw [show monoQ 247 x most = (if x = 0 then (0, 22) else withQ (1 / x) most) from rfl]
  have hF := RatFrom_ok 1 (by decide)
  by_cases h0 : x = 0
  · rw [if_pos h0]
    have hB := By_zero 1 1 i rfl (by rw [hi, h0]) ((Sz_small (by decide) (by decide)).mono (by decide))
    rw [← h0, show (1 : Rat).num = 1 from rfl] at hB
    refine ⟨0, rfl, RZ22 ?_⟩
    refine AC.of_body TTok Try.func31 rfl (enter_of Try.func31 (by kernel_rfl) (by kernel_rfl)) (noid3 (.val _) (RA_noid _ _) (.val _)) (.tup _ (noid2 RZ_noid (.val _))) (Nat.le_of_ble_eq_true rfl) ?_
    generalize x.num = n at *
    unfold RA RZ at *
    repeat
      conv => whnf
      first
        | refine ⟨_, by assumption, ?_⟩
        | refine ⟨(Nat.le_of_ble_eq_true rfl), _, by assumption, ?_⟩
        | refine ⟨by kernel_rfl, ?_⟩
        | exact rfl
        | refine ⟨by decide, ?_⟩
  · rw [if_neg h0]
    have hB := By_ok 1 x 1 i rfl hi ((Sz_small (by decide) (by decide)).mono (by decide)) (lx.mono (by decide)) h0
    rw [show (1 : Rat).num = 1 from rfl] at hB
    obtain ⟨d, hd, hP⟩ := within_ok (1 / x) (1 / x).den most (dn_den _)
    refine ⟨d, hd, ?_⟩
    refine AC.of_body TTok Try.func31 rfl (enter_of Try.func31 (by kernel_rfl) (by kernel_rfl)) (noid3 (.val _) (RA_noid _ _) (.val _)) (.tup _ (noid2 (RA_noid _ _) (.val _))) (Nat.le_of_ble_eq_true rfl) ?_
    revert hP
    generalize (withQ (1 / x) most).1 = r
    generalize (withQ (1 / x) most).2 = e
    intro hP
    generalize 1 / x = y at *
    unfold RA at *
    repeat
      conv => whnf
      first
        | refine ⟨_, by assumption, ?_⟩
        | refine ⟨(Nat.le_of_ble_eq_true rfl), _, by assumption, ?_⟩
        | refine ⟨by kernel_rfl, ?_⟩
        | exact rfl
        | refine ⟨by decide, ?_⟩

theorem One8968 (x : Rat) (i : Nat) (most : Int) (hi : dn i = x.den) (hm : most ≤ 200) (lx : Sz x 90) : ∃ d, dn d = (monoQ 8968 x most).1.den ∧ AC Try.prog 31 [.val (.int .i32 8968), RA x.num i, .val (.int .i64 most)] (.pure (.tup [RA (monoQ 8968 x most).1.num d, .val (.int .i64 (monoQ 8968 x most).2)])) := by
  rw [show monoQ 8968 x most = withQ ((x.ceil : Int) : Rat) most from rfl]
  have hC := QCeil_ok x i hi (lx.mono (by decide))
  have hW := Whole_ok x.ceil
  obtain ⟨d, hd, hP⟩ := within_ok ((x.ceil : Int) : Rat) 1 most rfl
  refine ⟨d, hd, ?_⟩
  refine AC.of_body TTok Try.func31 rfl (enter_of Try.func31 (by kernel_rfl) (by kernel_rfl)) (noid3 (.val _) (RA_noid _ _) (.val _)) (.tup _ (noid2 (RA_noid _ _) (.val _))) (Nat.le_of_ble_eq_true rfl) ?_
  revert hP
  generalize (withQ ((x.ceil : Int) : Rat) most).1 = r
  generalize (withQ ((x.ceil : Int) : Rat) most).2 = e
  intro hP
  rw [show (((x.ceil : Int) : Rat)).num = x.ceil from rfl] at hP
  generalize x.ceil = y at *
  unfold RA WI at *
  repeat
    conv => whnf
    first
      | refine ⟨_, by assumption, ?_⟩
      | refine ⟨(Nat.le_of_ble_eq_true rfl), _, by assumption, ?_⟩
      | refine ⟨by kernel_rfl, ?_⟩
      | exact rfl
      | refine ⟨by decide, ?_⟩

theorem One8970 (x : Rat) (i : Nat) (most : Int) (hi : dn i = x.den) (hm : most ≤ 200) (lx : Sz x 90) : ∃ d, dn d = (monoQ 8970 x most).1.den ∧ AC Try.prog 31 [.val (.int .i32 8970), RA x.num i, .val (.int .i64 most)] (.pure (.tup [RA (monoQ 8970 x most).1.num d, .val (.int .i64 (monoQ 8970 x most).2)])) := by
  rw [show monoQ 8970 x most = withQ ((x.floor : Int) : Rat) most from rfl]
  have hC := QFloor_ok x i hi (lx.mono (by decide))
  have hW := Whole_ok x.floor
  obtain ⟨d, hd, hP⟩ := within_ok ((x.floor : Int) : Rat) 1 most rfl
  refine ⟨d, hd, ?_⟩
  refine AC.of_body TTok Try.func31 rfl (enter_of Try.func31 (by kernel_rfl) (by kernel_rfl)) (noid3 (.val _) (RA_noid _ _) (.val _)) (.tup _ (noid2 (RA_noid _ _) (.val _))) (Nat.le_of_ble_eq_true rfl) ?_
  revert hP
  generalize (withQ ((x.floor : Int) : Rat) most).1 = r
  generalize (withQ ((x.floor : Int) : Rat) most).2 = e
  intro hP
  rw [show (((x.floor : Int) : Rat)).num = x.floor from rfl] at hP
  generalize x.floor = y at *
  unfold RA WI at *
  repeat
    conv => whnf
    first
      | refine ⟨_, by assumption, ?_⟩
      | refine ⟨(Nat.le_of_ble_eq_true rfl), _, by assumption, ?_⟩
      | refine ⟨by kernel_rfl, ?_⟩
      | exact rfl
      | refine ⟨by decide, ?_⟩

theorem One124 (x : Rat) (i : Nat) (most : Int) (hi : dn i = x.den) (hm : most ≤ 200) (lx : Sz x 90) : ∃ d, dn d = (monoQ 124 x most).1.den ∧ AC Try.prog 31 [.val (.int .i32 124), RA x.num i, .val (.int .i64 most)] (.pure (.tup [RA (monoQ 124 x most).1.num d, .val (.int .i64 (monoQ 124 x most).2)])) := by
  rw [show monoQ 124 x most = withQ (if x.num < 0 then -x else x) most from rfl]
  have hS := RaSign_ok x.num i
  have fS := sig_lt (n := x.num)
  by_cases h : x.num < 0
  · rw [if_pos h]
    rw [decide_eq_true h] at fS
    have hM := QMinus_ok x.num i
    rw [hi] at hM
    have hM : AC Try.prog 43 [RA x.num i] (.pure (RA (-x).num x.den)) := hM
    obtain ⟨d, hd, hP⟩ := within_ok (-x) x.den most (dn_den x)
    refine ⟨d, hd, ?_⟩
    refine AC.of_body TTok Try.func31 rfl (enter_of Try.func31 (by kernel_rfl) (by kernel_rfl)) (noid3 (.val _) (RA_noid _ _) (.val _)) (.tup _ (noid2 (RA_noid _ _) (.val _))) (Nat.le_of_ble_eq_true rfl) ?_
    revert hP
    generalize (withQ (-x) most).1 = r
    generalize (withQ (-x) most).2 = e
    intro hP
    generalize -x = y at *
    generalize sigW x.num = s at *
    unfold RA at *
    conv => whnf
    refine ⟨_, hS, ?_⟩
    conv => whnf
    refine caseb (fun _ => ?_) (fun h => Bool.noConfusion ((fS).symm.trans h))
    repeat
      conv => whnf
      first
        | refine ⟨_, by assumption, ?_⟩
        | refine ⟨(Nat.le_of_ble_eq_true rfl), _, by assumption, ?_⟩
        | refine ⟨by kernel_rfl, ?_⟩
        | exact rfl
        | refine ⟨by decide, ?_⟩
  · rw [if_neg h]
    rw [decide_eq_false h] at fS
    obtain ⟨d, hd, hP⟩ := within_ok x i most hi
    refine ⟨d, hd, ?_⟩
    refine AC.of_body TTok Try.func31 rfl (enter_of Try.func31 (by kernel_rfl) (by kernel_rfl)) (noid3 (.val _) (RA_noid _ _) (.val _)) (.tup _ (noid2 (RA_noid _ _) (.val _))) (Nat.le_of_ble_eq_true rfl) ?_
    revert hP
    generalize (withQ x most).1 = r
    generalize (withQ x most).2 = e
    intro hP
    generalize sigW x.num = s at *
    unfold RA at *
    conv => whnf
    refine ⟨_, hS, ?_⟩
    conv => whnf
    refine caseb (fun h => Bool.noConfusion ((fS).symm.trans h)) (fun _ => ?_)
    repeat
      conv => whnf
      first
        | refine ⟨_, by assumption, ?_⟩
        | refine ⟨(Nat.le_of_ble_eq_true rfl), _, by assumption, ?_⟩
        | refine ⟨by kernel_rfl, ?_⟩
        | exact rfl
        | refine ⟨by decide, ?_⟩

theorem One33 (x : Rat) (i : Nat) (most : Int) (hi : dn i = x.den) (hm : most ≤ 200) (lx : Sz x 90) : ∃ d, dn d = (monoQ 33 x most).1.den ∧ AC Try.prog 31 [.val (.int .i32 33), RA x.num i, .val (.int .i64 most)] (.pure (.tup [RA (monoQ 33 x most).1.num d, .val (.int .i64 (monoQ 33 x most).2)])) := by
  rw [show monoQ 33 x most = facQ x most from rfl]
  obtain ⟨d, hd, hP⟩ := Fac_ok x i most hi hm
  refine ⟨d, hd, ?_⟩
  refine AC.of_body TTok Try.func31 rfl (enter_of Try.func31 (by kernel_rfl) (by kernel_rfl)) (noid3 (.val _) (RA_noid _ _) (.val _)) (.tup _ (noid2 (RA_noid _ _) (.val _))) (Nat.le_of_ble_eq_true rfl) ?_
  revert hP
  generalize (facQ x most).1 = r
  generalize (facQ x most).2 = e
  intro hP
  unfold RA at *
  repeat
    conv => whnf
    first
      | refine ⟨_, by assumption, ?_⟩
      | refine ⟨(Nat.le_of_ble_eq_true rfl), _, by assumption, ?_⟩
      | refine ⟨by kernel_rfl, ?_⟩
      | exact rfl
      | refine ⟨by decide, ?_⟩

theorem One126 (x : Rat) (i : Nat) (most : Int) (hi : dn i = x.den) (hm : most ≤ 200) (lx : Sz x 90) : ∃ d, dn d = (monoQ 126 x most).1.den ∧ AC Try.prog 31 [.val (.int .i32 126), RA x.num i, .val (.int .i64 most)] (.pure (.tup [RA (monoQ 126 x most).1.num d, .val (.int .i64 (monoQ 126 x most).2)])) := by
  rw [show monoQ 126 x most = notQ x from rfl]
  obtain ⟨d, hd, hP⟩ := not_ok x i hi
  refine ⟨d, hd, ?_⟩
  refine AC.of_body TTok Try.func31 rfl (enter_of Try.func31 (by kernel_rfl) (by kernel_rfl)) (noid3 (.val _) (RA_noid _ _) (.val _)) (.tup _ (noid2 (RA_noid _ _) (.val _))) (Nat.le_of_ble_eq_true rfl) ?_
  revert hP
  generalize (notQ x).1 = r
  generalize (notQ x).2 = e
  intro hP
  unfold RA at *
  repeat
    conv => whnf
    first
      | refine ⟨_, by assumption, ?_⟩
      | refine ⟨(Nat.le_of_ble_eq_true rfl), _, by assumption, ?_⟩
      | refine ⟨by kernel_rfl, ?_⟩
      | exact rfl
      | refine ⟨by decide, ?_⟩

theorem One42 (x : Rat) (i : Nat) (most : Int) (hi : dn i = x.den) (hm : most ≤ 200) (lx : Sz x 90) : ∃ d, dn d = (monoQ 42 x most).1.den ∧ AC Try.prog 31 [.val (.int .i32 42), RA x.num i, .val (.int .i64 most)] (.pure (.tup [RA (monoQ 42 x most).1.num d, .val (.int .i64 (monoQ 42 x most).2)])) := by
  have hH := MHas_ok 42
  refine ⟨0, rfl, RZ22 ?_⟩
  rw [decide_eq_true (show isOne 42 by decide)] at hH
  refine AC.of_body TTok Try.func31 rfl (enter_of Try.func31 (by kernel_rfl) (by kernel_rfl)) (noid3 (.val _) (RA_noid _ _) (.val _)) (.tup _ (noid2 RZ_noid (.val _))) (Nat.le_of_ble_eq_true rfl) ?_
  unfold RA RZ at *
  repeat
    conv => whnf
    first
      | refine ⟨_, by assumption, ?_⟩
      | refine ⟨(Nat.le_of_ble_eq_true rfl), _, by assumption, ?_⟩
      | refine ⟨by kernel_rfl, ?_⟩
      | exact rfl
      | refine ⟨by decide, ?_⟩

theorem One9055 (x : Rat) (i : Nat) (most : Int) (hi : dn i = x.den) (hm : most ≤ 200) (lx : Sz x 90) : ∃ d, dn d = (monoQ 9055 x most).1.den ∧ AC Try.prog 31 [.val (.int .i32 9055), RA x.num i, .val (.int .i64 most)] (.pure (.tup [RA (monoQ 9055 x most).1.num d, .val (.int .i64 (monoQ 9055 x most).2)])) := by
  have hH := MHas_ok 9055
  refine ⟨0, rfl, RZ22 ?_⟩
  rw [decide_eq_true (show isOne 9055 by decide)] at hH
  refine AC.of_body TTok Try.func31 rfl (enter_of Try.func31 (by kernel_rfl) (by kernel_rfl)) (noid3 (.val _) (RA_noid _ _) (.val _)) (.tup _ (noid2 RZ_noid (.val _))) (Nat.le_of_ble_eq_true rfl) ?_
  unfold RA RZ at *
  repeat
    conv => whnf
    first
      | refine ⟨_, by assumption, ?_⟩
      | refine ⟨(Nat.le_of_ble_eq_true rfl), _, by assumption, ?_⟩
      | refine ⟨by kernel_rfl, ?_⟩
      | exact rfl
      | refine ⟨by decide, ?_⟩

theorem One9675 (x : Rat) (i : Nat) (most : Int) (hi : dn i = x.den) (hm : most ≤ 200) (lx : Sz x 90) : ∃ d, dn d = (monoQ 9675 x most).1.den ∧ AC Try.prog 31 [.val (.int .i32 9675), RA x.num i, .val (.int .i64 most)] (.pure (.tup [RA (monoQ 9675 x most).1.num d, .val (.int .i64 (monoQ 9675 x most).2)])) := by
  have hH := MHas_ok 9675
  refine ⟨0, rfl, RZ22 ?_⟩
  rw [decide_eq_true (show isOne 9675 by decide)] at hH
  refine AC.of_body TTok Try.func31 rfl (enter_of Try.func31 (by kernel_rfl) (by kernel_rfl)) (noid3 (.val _) (RA_noid _ _) (.val _)) (.tup _ (noid2 RZ_noid (.val _))) (Nat.le_of_ble_eq_true rfl) ?_
  unfold RA RZ at *
  repeat
    conv => whnf
    first
      | refine ⟨_, by assumption, ?_⟩
      | refine ⟨(Nat.le_of_ble_eq_true rfl), _, by assumption, ?_⟩
      | refine ⟨by kernel_rfl, ?_⟩
      | exact rfl
      | refine ⟨by decide, ?_⟩

theorem mono_not {c : Int} (hc : ¬ isOne c) (x : Rat) (most : Int) : monoQ c x most = (0, 20) := by
  have h := hc
  unfold isOne at h
  unfold monoQ
  rw [if_neg (by omega), if_neg (by omega), if_neg (by omega), if_neg (by omega), if_neg (by omega), if_neg (by omega), if_neg (by omega), if_neg (by omega), if_neg (by omega), if_neg hc]
theorem One_not (c : Int) (hc : ¬ isOne c) (x : Rat) (i : Nat) (most : Int) : AC Try.prog 31 [.val (.int .i32 c), RA x.num i, .val (.int .i64 most)] (.pure (.tup [RA 0 0, .val (.int .i64 20)])) := by
  refine RZ22 ?_
  have hH := MHas_ok c
  rw [decide_eq_false hc] at hH
  have e0 : (c == 43) = false := beq_false_of_ne (fun h => hc (by rw [h]; decide))
  have e1 : (c == 45) = false := beq_false_of_ne (fun h => hc (by rw [h]; decide))
  have e2 : (c == 215) = false := beq_false_of_ne (fun h => hc (by rw [h]; decide))
  have e3 : (c == 247) = false := beq_false_of_ne (fun h => hc (by rw [h]; decide))
  have e4 : (c == 8968) = false := beq_false_of_ne (fun h => hc (by rw [h]; decide))
  have e5 : (c == 8970) = false := beq_false_of_ne (fun h => hc (by rw [h]; decide))
  have e6 : (c == 124) = false := beq_false_of_ne (fun h => hc (by rw [h]; decide))
  have e7 : (c == 42) = false := beq_false_of_ne (fun h => hc (by rw [h]; decide))
  have e8 : (c == 33) = false := beq_false_of_ne (fun h => hc (by rw [h]; decide))
  have e9 : (c == 126) = false := beq_false_of_ne (fun h => hc (by rw [h]; decide))
  have e10 : (c == 9055) = false := beq_false_of_ne (fun h => hc (by rw [h]; decide))
  have e11 : (c == 9675) = false := beq_false_of_ne (fun h => hc (by rw [h]; decide))
  clear hc
  refine AC.of_body TTok Try.func31 rfl (enter_of Try.func31 (by kernel_rfl) (by kernel_rfl)) (noid3 (.val _) (RA_noid _ _) (.val _)) (.tup _ (noid2 RZ_noid (.val _))) (Nat.le_of_ble_eq_true rfl) ?_
  generalize x.num = n at *
  unfold RA RZ at *
  conv => whnf
  refine caseb (fun h => Bool.noConfusion ((e0).symm.trans h)) (fun _ => ?_)
  conv => whnf
  refine caseb (fun h => Bool.noConfusion ((e1).symm.trans h)) (fun _ => ?_)
  conv => whnf
  refine caseb (fun h => Bool.noConfusion ((e2).symm.trans h)) (fun _ => ?_)
  conv => whnf
  refine caseb (fun h => Bool.noConfusion ((e3).symm.trans h)) (fun _ => ?_)
  conv => whnf
  refine caseb (fun h => Bool.noConfusion ((e4).symm.trans h)) (fun _ => ?_)
  conv => whnf
  refine caseb (fun h => Bool.noConfusion ((e5).symm.trans h)) (fun _ => ?_)
  conv => whnf
  refine caseb (fun h => Bool.noConfusion ((e6).symm.trans h)) (fun _ => ?_)
  conv => whnf
  refine caseb (fun h => Bool.noConfusion ((e8).symm.trans h)) (fun _ => ?_)
  conv => whnf
  refine caseb (fun h => Bool.noConfusion ((e9).symm.trans h)) (fun _ => ?_)
  repeat
    conv => whnf
    first
      | refine ⟨_, by assumption, ?_⟩
      | refine ⟨(Nat.le_of_ble_eq_true rfl), _, by assumption, ?_⟩
      | refine ⟨by kernel_rfl, ?_⟩
      | exact rfl
      | refine ⟨by decide, ?_⟩
theorem Mono_ok (c : Int) (x : Rat) (i : Nat) (most : Int) (hi : dn i = x.den) (hm : most ≤ 200) (lx : Sz x 90) : ∃ d, dn d = (monoQ c x most).1.den ∧ AC Try.prog 31 [.val (.int .i32 c), RA x.num i, .val (.int .i64 most)] (.pure (.tup [RA (monoQ c x most).1.num d, .val (.int .i64 (monoQ c x most).2)])) := by
  by_cases hc : isOne c
  · rcases hc with rfl | rfl | rfl | rfl | rfl | rfl | rfl | rfl | rfl | rfl | rfl | rfl
    · exact One43 x i most hi hm lx
    · exact One45 x i most hi hm lx
    · exact One215 x i most hi hm lx
    · exact One247 x i most hi hm lx
    · exact One8968 x i most hi hm lx
    · exact One8970 x i most hi hm lx
    · exact One124 x i most hi hm lx
    · exact One42 x i most hi hm lx
    · exact One33 x i most hi hm lx
    · exact One126 x i most hi hm lx
    · exact One9055 x i most hi hm lx
    · exact One9675 x i most hi hm lx
  · rw [mono_not hc]
    exact ⟨0, rfl, One_not c hc x i most⟩

end Go.Proofs.Ytabgankeaagibaa
