/- Products with the unit matrix (plain laws). -/
import Derived.Test.YtbdklokfijjifaaGreatB5
set_option linter.unusedVariables false
namespace Go.Proofs.YtbdklokfijjifaaGreat
open Go Go.AL NM
section
def big8 : Int := 18446744073709551616
theorem Sz_four {n : Int} (h : -(big8 * 16777216) ≤ n ∧ n ≤ big8 * 16777216) : Sz (n : Rat) 4 := by
 refine Sz_int (by decide) (limbs_len_le ?_)
 unfold big8 at h
 omega
theorem reck_small {c : Int} {r : Rat} {n : Int} {p q : Rat} (h1 : ¬ isCmp c) (h2 : ¬ isJdg c) (h3 : isRec c) (hr : reckonQ c p q 8 = (r, 0)) (hn : r = (n : Rat)) (hb : -(big8 * 16777216) ≤ n ∧ n ≤ big8 * 16777216) :
  pairE c 8 (numE p) (numE q) = ((n : Rat), 0) := by
 subst hn
 have hS := Sz_four hb
 have e : pairE c 8 (numE p) (numE q) = twoQ c p q 8 := by
  unfold pairE pairV
  exact if_neg (fun h => by rcases h with h | h <;> exact Bool.noConfusion h)
 rw [e]
 unfold twoQ
 rw [if_neg h1, if_neg h2, if_neg (fun h => h h3), hr, if_neg (fun h => h rfl), if_neg]
 have q1 := hS.1
 have q2 := hS.2
 show ¬ (8 : Int) < ((qLimbs (n : Rat).num (n : Rat).den : Nat) : Int)
 unfold qLimbs
 omega
theorem add_small {a b : Int} (ha : -big8 ≤ a ∧ a ≤ big8) (hb : -big8 ≤ b ∧ b ≤ big8) : pairE 43 8 (numE (a : Rat)) (numE (b : Rat)) = (((a + b : Int) : Rat), 0) :=
 reck_small (by decide) (by decide) (by decide) (by unfold reckonQ; rw [if_pos rfl]) (Rat.intCast_add a b).symm (by unfold big8 at *; omega)
theorem mul_small {a b : Int} (ha : -65536 ≤ a ∧ a ≤ 65536) (hb : -65536 ≤ b ∧ b ≤ 65536) : pairE 215 8 (numE (a : Rat)) (numE (b : Rat)) = (((a * b : Int) : Rat), 0) :=
 reck_small (by decide) (by decide) (by decide) (by unfold reckonQ; rw [if_neg (by decide), if_neg (by decide), if_pos rfl]) (Rat.intCast_mul a b).symm (by
  have h : (a * b).natAbs ≤ 65536 * 65536 := by rw [Int.natAbs_mul]; exact Nat.mul_le_mul (by omega) (by omega)
  unfold big8
  omega)
theorem sum_bound : ∀ l : List Int, (∀ x ∈ l, -65536 ≤ x ∧ x ≤ 65536) → -(65536 * (l.length : Int)) ≤ l.sum ∧ l.sum ≤ 65536 * (l.length : Int)
 | [], _ => by decide
 | x :: l, h => by
  have ih := sum_bound l fun y hy => h y (List.mem_cons_of_mem _ hy)
  have hx := h x (by simp)
  rw [List.sum_cons, List.length_cons]
  omega
theorem fold_sum : ∀ l : List Int, l ≠ [] → (∀ x ∈ l, -65536 ≤ x ∧ x ≤ 65536) → l.length ≤ 1000 → foldE 43 8 (l.map fun n : Int => numE (n : Rat)) = (numE ((l.sum : Int) : Rat), 0)
 | [], h, _, _ => absurd rfl h
 | [x], _, _, _ => by rw [List.map_singleton, foldE_one, List.sum_cons, List.sum_nil, Int.add_zero]
 | x :: y :: l, _, hb, hl => by
  have hl' : (y :: l).length ≤ 1000 := by rw [List.length_cons] at hl; omega
  have hb' : ∀ z ∈ y :: l, -65536 ≤ z ∧ z ≤ 65536 := fun z hz => hb z (List.mem_cons_of_mem _ hz)
  have ih := fold_sum (y :: l) (List.cons_ne_nil _ _) hb' hl'
  have hx := hb x (by simp)
  have hs := sum_bound (y :: l) hb'
  have e := add_small (a := x) (b := (y :: l).sum) (by unfold big8; omega) (by unfold big8; omega)
  rw [List.map_cons, foldE_cons _ _ _ (by simp), ih, if_neg (fun h => h rfl), e, if_neg (fun h => h rfl), List.sum_cons (a := x)]
theorem sum_pick (f : Nat → Int) (k : Nat) : ∀ n, ((List.range n).map fun j => if j = k then f j else 0).sum = if k < n then f k else 0
 | 0 => by rw [if_neg (Nat.not_lt_zero _)]; rfl
 | n + 1 => by
  rw [List.range_succ, List.map_append, List.sum_append, sum_pick f k n]
  show (if k < n then f k else 0) + ((if n = k then f n else 0) + 0) = _
  by_cases h : n = k
  ·subst h; rw [if_neg (Nat.lt_irrefl _), if_pos rfl, if_pos (Nat.lt_succ_self _)]; omega
  ·rw [if_neg h]
   by_cases h2 : k < n
   ·rw [if_pos h2, if_pos (by omega)]; omega
   ·rw [if_neg h2, if_neg (by omega)]; omega
def unitL (n : Nat) : List Int := (List.range (n * n)).map fun i => if i % (n + 1) = 0 then 1 else 0
theorem unitL_len (n : Nat) : (unitL n).length = n * n := by unfold unitL; rw [List.length_map, List.length_range]
theorem unit_at (n j k : Nat) (hj : j < n) (hk : k < n) : (unitL n).getD (j * n + k) 0 = if j = k then 1 else 0 := by
 have hlt : j * n + k < n * n := by
  have : (j + 1) * n ≤ n * n := Nat.mul_le_mul_right _ hj
  rw [Nat.add_mul, Nat.one_mul] at this
  omega
 unfold unitL
 rw [List.getD_eq_getElem?_getD, List.getElem?_map, List.getElem?_range hlt]
 show (if (j * n + k) % (n + 1) = 0 then (1 : Int) else 0) = _
 by_cases h : j = k
 ·subst h
  rw [show j * n + j = j * (n + 1) by rw [Nat.mul_add, Nat.mul_one], Nat.mul_mod_left, if_pos rfl, if_pos rfl]
 ·rw [if_neg h, if_neg]
  intro h0
  by_cases hlt2 : j < k
  ·have e : j * n + k = (n + 1) * j + (k - j) := by rw [Nat.add_mul, Nat.one_mul, Nat.mul_comm n j]; omega
   rw [e, Nat.mul_add_mod, Nat.mod_eq_of_lt (by omega)] at h0
   omega
  ·obtain ⟨i, rfl⟩ : ∃ i, j = i + 1 := ⟨j - 1, by omega⟩
   have e : (i + 1) * n + k = (n + 1) * i + (n + k - i) := by rw [Nat.add_mul, Nat.one_mul, Nat.add_mul, Nat.one_mul, Nat.mul_comm n i]; omega
   rw [e, Nat.mul_add_mod, Nat.mod_eq_of_lt (by omega)] at h0
   omega
theorem elI (L : List Int) (i : Nat) : elA false [] (L.map fun n : Int => (n : Rat)) i = numE ((L.getD i 0 : Int) : Rat) := by
 unfold elA numE
 rw [List.getD_eq_getElem?_getD, List.getD_eq_getElem?_getD, List.getD_eq_getElem?_getD, List.getElem?_map]
 cases L[i]? <;> rfl
theorem getD_bound {L : List Int} (h : ∀ x ∈ L, -128 ≤ x ∧ x ≤ 128) (i : Nat) : -128 ≤ L.getD i 0 ∧ L.getD i 0 ≤ 128 := by
 rw [List.getD_eq_getElem?_getD]
 cases hL : L[i]? with
 | none => exact ⟨by decide, by decide⟩
 | some n => exact h n (List.mem_of_getElem? hL)
theorem mul_bound {a b : Int} (ha : -128 ≤ a ∧ a ≤ 128) (hb : -128 ≤ b ∧ b ≤ 128) : -65536 ≤ a * b ∧ a * b ≤ 65536 := by
 have h : (a * b).natAbs ≤ 128 * 128 := by rw [Int.natAbs_mul]; exact Nat.mul_le_mul (by omega) (by omega)
 omega
theorem innV_int (A B : List Int) (n : Nat) (h0 : 0 < n) (h6 : n ≤ 100) (bA : ∀ x ∈ A, -128 ≤ x ∧ x ≤ 128) (bB : ∀ x ∈ B, -128 ≤ x ∧ x ≤ 128) (i : Nat) :
  innV 43 215 8 false false [] [] (A.map fun n : Int => (n : Rat)) (B.map fun n : Int => (n : Rat)) n n n n i = (((((List.range n).map fun j => A.getD (i / n * n + j) 0 * B.getD (j * n + i % n) 0).sum : Int) : Rat), 0) := by
 obtain ⟨L, hL⟩ : ∃ L, L = (List.range n).map fun j => A.getD (i / n * n + j) 0 * B.getD (j * n + i % n) 0 := ⟨_, rfl⟩
 have lL : L.length = n := by rw [hL, List.length_map, List.length_range]
 have hb : ∀ x ∈ L, -65536 ≤ x ∧ x ≤ 65536 := fun x hx => by
  rw [hL] at hx
  obtain ⟨j, _, rfl⟩ := List.mem_map.1 hx
  exact mul_bound (getD_bound bA _) (getD_bound bB _)
 have hI : innL 215 8 false false [] [] (A.map fun n : Int => (n : Rat)) (B.map fun n : Int => (n : Rat)) n n n n (i / n) (i % n) = L.map fun x : Int => ((x : Rat), (0 : Int)) := by
  unfold innL
  rw [hL, List.map_map]
  refine List.map_congr_left fun j hj => ?_
  have hj := List.mem_range.1 hj
  have a1 := getD_bound bA (i / n * n + j)
  have b1 := getD_bound bB (j * n + i % n)
  rw [Nat.min_eq_left (by omega), elI, elI]
  exact mul_small (by omega) (by omega)
 have hE : firstE (L.map fun x : Int => ((x : Rat), (0 : Int))) = 0 := firstE_zero fun x hx => by
  obtain ⟨y, _, rfl⟩ := List.mem_map.1 hx
  rfl
 unfold innV
 rw [hI, hE, if_neg (fun h => h rfl), if_neg (by omega), List.map_map]
 have e := fold_sum L (fun e => by rw [e] at lL; exact absurd lL (by show ¬ 0 = n; omega)) hb (by omega)
 show ((foldE 43 8 (L.map fun n : Int => numE (n : Rat))).1.2.2, (foldE 43 8 (L.map fun n : Int => numE (n : Rat))).2) = _
 rw [e, ← hL]
 rfl
theorem inn_unitR (A : List Int) (n : Nat) (h0 : 0 < n) (i : Nat) : ((List.range n).map fun j => A.getD (i / n * n + j) 0 * (unitL n).getD (j * n + i % n) 0).sum = A.getD i 0 := by
 have hk := Nat.mod_lt i h0
 have e : ((List.range n).map fun j => A.getD (i / n * n + j) 0 * (unitL n).getD (j * n + i % n) 0) = (List.range n).map fun j => if j = i % n then A.getD (i / n * n + j) 0 else 0 := List.map_congr_left fun j hj => by
  rw [unit_at n j (i % n) (List.mem_range.1 hj) hk]
  split
  ·rw [Int.mul_one]
  ·rw [Int.mul_zero]
 rw [e, sum_pick (fun j => A.getD (i / n * n + j) 0), if_pos hk, Nat.mul_comm, Nat.div_add_mod]
theorem inn_unitL (A : List Int) (n : Nat) (h0 : 0 < n) (i : Nat) (hi : i < n * n) : ((List.range n).map fun j => (unitL n).getD (i / n * n + j) 0 * A.getD (j * n + i % n) 0).sum = A.getD i 0 := by
 have hr : i / n < n := Nat.div_lt_of_lt_mul hi
 have e : ((List.range n).map fun j => (unitL n).getD (i / n * n + j) 0 * A.getD (j * n + i % n) 0) = (List.range n).map fun j => if j = i / n then A.getD (j * n + i % n) 0 else 0 := List.map_congr_left fun j hj => by
  rw [unit_at n (i / n) j hr (List.mem_range.1 hj)]
  by_cases h : j = i / n
  ·rw [if_pos h.symm, if_pos h, Int.one_mul]
  ·rw [if_neg (fun e => h e.symm), if_neg h, Int.zero_mul]
 rw [e, sum_pick (fun j => A.getD (j * n + i % n) 0), if_pos hr, Nat.mul_comm, Nat.div_add_mod]
theorem unitL_bound (n : Nat) : ∀ x ∈ unitL n, -128 ≤ x ∧ x ≤ 128 := fun x hx => by
 unfold unitL at hx
 obtain ⟨i, _, rfl⟩ := List.mem_map.1 hx
 split <;> exact ⟨by decide, by decide⟩
theorem eq_free (p q : Rat) : (pairE 61 8 (numE p) (numE q)).2 = 0 := by
 have e : pairE 61 8 (numE p) (numE q) = twoQ 61 p q 8 := by
  unfold pairE pairV
  exact if_neg (fun h => by rcases h with h | h <;> exact Bool.noConfusion h)
 rw [e]
 unfold twoQ
 rw [if_pos (by decide)]
end
section
theorem vS_two (a b : Nat) (ha : a ≤ 6) (hb : b ≤ 36) : vS [(a : Int), (b : Int)] := by
 refine ⟨by show 2 ≤ 8; decide, fun d hd => ?_, ?_⟩
 ·simp only [List.mem_cons, List.not_mem_nil, or_false] at hd
  omega
 ·show 1 * max 1 (a : Int) * max 1 (b : Int) ≤ 4096
  have h : (max 1 a) * (max 1 b) ≤ 6 * 36 := Nat.mul_le_mul (by omega) (by omega)
  have e : 1 * max 1 (a : Int) * max 1 (b : Int) = ((max 1 a * max 1 b : Nat) : Int) := by
   rw [Int.one_mul, Int.natCast_mul]
   congr 1 <;> omega
  omega
theorem roomE_zero {s : List Int} (hv : vS s) : roomE s = 0 := by
 unfold roomE
 rw [if_neg (by have := hv.1; omega), if_pos hv]
theorem pr_one (a : Nat) : pr [(a : Int)] = a := by
 show (a : Int).toNat * 1 = a
 rw [Int.toNat_natCast, Nat.mul_one]
theorem pr_two (a b : Nat) : pr [(a : Int), (b : Int)] = a * b := by
 show (a : Int).toNat * ((b : Int).toNat * 1) = a * b
 rw [Int.toNat_natCast, Int.toNat_natCast, Nat.mul_one]
theorem int_vals (L : List Int) : (L.map intX).map valX = L.map fun n : Int => (n : Rat) := by rw [List.map_map]; rfl
theorem int_szs {L : List Int} (h : ∀ x ∈ L, -128 ≤ x ∧ x ≤ 128) : ∀ q ∈ L.map fun n : Int => (n : Rat), Sz q 20 := fun q hq => by
 obtain ⟨n, hn, rfl⟩ := List.mem_map.1 hq
 have := h n hn
 exact (Sz_four (by unfold big8; omega)).mono (by decide)
theorem kinds_int {s : List Int} (hv : vS s) {L : List Int} (h : L.length = pr s) : kinds s false ([] : List Int).length (L.map intX).length := by
 unfold kinds
 rw [(vS_pr hv).1, List.length_map, h]
 exact q2r
theorem InnerU (A B C : List Int) (n : Nat) (h0 : 0 < n) (h6 : n ≤ 6) (lA : A.length = n * n) (lB : B.length = n * n) (lC : C.length = n * n) (bA : ∀ x ∈ A, -128 ≤ x ∧ x ≤ 128) (bB : ∀ x ∈ B, -128 ≤ x ∧ x ≤ 128)
  (hC : ∀ i, i < n * n → ((List.range n).map fun j => A.getD (i / n * n + j) 0 * B.getD (j * n + i % n) 0).sum = C.getD i 0) :
  ∃ X : List (Option (Rat × Nat)), X.map valX = (C.map fun n : Int => (n : Rat)) ∧ (∀ o ∈ X, okX o) ∧
   AC Tryz.prog 23 [.val (.int .i32 43), .val (.int .i32 215), AA [(n : Int), (n : Int)] false [] (A.map intX) true, AA [(n : Int), (n : Int)] false [] (B.map intX) true, .val (.int .i64 8)] (.pure (.tup [AA [(n : Int), (n : Int)] false [] X true, .val (.int .i64 0)])) := by
 have hv := vS_two n n h6 (by omega)
 have ea : rowsS [(n : Int), (n : Int)] = (n, n, [(n : Int)]) := by
  unfold rowsS
  rw [if_neg (fun h => nomatch h)]
  show (pr [(n : Int)], (n : Int).toNat, [(n : Int)]) = _
  rw [pr_one, Int.toNat_natCast]
 have eb : colsS [(n : Int), (n : Int)] = (n, n, [(n : Int)]) := by
  unfold colsS
  rw [if_neg (fun h => nomatch h)]
  show (pr [(n : Int)], (n : Int).toNat, [(n : Int)]) = _
  rw [pr_one, Int.toNat_natCast]
 have hlong : longS n n = n := by
  unfold longS
  rw [if_neg (by omega), Nat.max_self]
 have hr : roomE ([(n : Int)] ++ [(n : Int)]) = 0 := roomE_zero hv
 obtain ⟨V, hV⟩ : ∃ V, V = innV 43 215 8 false false [] [] (A.map fun n : Int => (n : Rat)) (B.map fun n : Int => (n : Rat)) n n n (longS n n) := ⟨_, rfl⟩
 obtain ⟨F, hF⟩ : ∃ F, F = (List.range (n * n)).map V := ⟨_, rfl⟩
 have hVi : ∀ i, i < n * n → V i = (((C.getD i 0 : Int) : Rat), 0) := fun i hi => by
  rw [hV, hlong, innV_int A B n h0 (by omega) bA bB i, hC i hi]
 have hE : firstE F = 0 := firstE_zero fun x hx => by
  rw [hF] at hx
  obtain ⟨i, hi, rfl⟩ := List.mem_map.1 hx
  rw [hVi i (List.mem_range.1 hi)]
 obtain ⟨X, x1, x2, _, x4⟩ := Inner_good 43 215 8 (by decide) (by decide) (by decide) _ _ false false [] [] (A.map intX) (B.map intX) _ _ (int_vals A) (int_vals B) (ints_ok A) (ints_ok B) (int_szs bA) (int_szs bB) hv hv (kinds_int hv (by rw [lA, pr_two])) (kinds_int hv (by rw [lB, pr_two])) n n n n _ _ ea eb (.inl rfl) (fun _ => by rw [hlong]; omega) V hV F hF
 refine ⟨X, ?_, x2, ?_⟩
 ·rw [x1 hr hE, hF, List.map_map]
  refine List.ext_getElem (by rw [List.length_map, List.length_range, List.length_map, lC]) fun i h1 h2 => ?_
  have hi : i < n * n := by rw [List.length_map, List.length_range] at h1; exact h1
  rw [List.getElem_map, List.getElem_map, List.getElem_range]
  show (V i).1 = _
  rw [hVi i hi, List.getD_eq_getElem?_getD, List.getElem?_eq_getElem (by omega)]
  rfl
 ·rw [if_pos hr, hE] at x4
  exact x4
theorem OuterU (A B : List Int) (n : Nat) (h6 : n ≤ 6) (lA : A.length = n) (lB : B.length = n * n) (bA : ∀ x ∈ A, -128 ≤ x ∧ x ≤ 128) (bB : ∀ x ∈ B, -128 ≤ x ∧ x ≤ 128) :
  ∃ X : List (Option (Rat × Nat)), X.length ≤ 5000 ∧
   AC Tryz.prog 24 [.val (.int .i32 61), AA [(n : Int)] false [] (A.map intX) true, AA [((n * n : Nat) : Int)] false [] (B.map intX) true, .val (.int .i64 8)] (.pure (.tup [AA [(n : Int), ((n * n : Nat) : Int)] false [] X true, .val (.int .i64 0)])) := by
 have hn : n * n ≤ 6 * 6 := Nat.mul_le_mul h6 h6
 have hn3 : n * (n * n) ≤ 6 * 36 := Nat.mul_le_mul h6 hn
 have va := (vS_single n (by omega)).1
 have vb := (vS_single (n * n) (by omega)).1
 have hv := vS_two n (n * n) h6 hn
 have hr : roomE ([(n : Int)] ++ [((n * n : Nat) : Int)]) = 0 := roomE_zero hv
 have hE : firstE (outP 61 8 false false [] [] (A.map fun n : Int => (n : Rat)) (B.map fun n : Int => (n : Rat)) (pr [((n * n : Nat) : Int)]) (pr [(n : Int)] * pr [((n * n : Nat) : Int)])) = 0 := firstE_zero fun x hx => by
  unfold outP at hx
  obtain ⟨i, _, rfl⟩ := List.mem_map.1 hx
  rw [elI, elI]
  exact eq_free _ _
 obtain ⟨X, _, _, x3, x4⟩ := Outer_good 61 8 (by decide) (by decide) _ _ false false [] [] (A.map intX) (B.map intX) _ _ (int_vals A) (int_vals B) (ints_ok A) (ints_ok B) (int_szs bA) (int_szs bB) va vb (kinds_int va (by rw [lA, pr_one])) (kinds_int vb (by rw [lB, pr_one])) hr (by rw [pr_one, pr_one]; omega)
 rw [hE] at x4
 exact ⟨X, x3, x4⟩
end
end Go.Proofs.YtbdklokfijjifaaGreat

namespace Go.Proofs.YtbdklokfijjifaaGreat.productUnit
open Go Go.AL NM
section
section
variable (m l : List Int)
theorem nd : ∀ x ∈ [AV.sl 1 (irows .i8 m) false, AV.sl 1 (irows .i8 l) false], NoId x := noid2 (noid_sl _ _ _) (noid_sl _ _ _)
theorem bad (h : l.length < 1 ∨ 6 < l.length ∨ m.length < l.length * l.length ∨ 100 < m.length) (hm : m.length < 9223372036854775808) : AC Tryz.prog 6 [.sl 1 (irows .i8 m) false, .sl 1 (irows .i8 l) false] (.pure (.val (.bool true))) := by
 have hA := awake20_ok
 have l1 := irows_len .i8 m
 have l2 := irows_len .i8 l
 refine AC.of_body TTok Tryz.func6 rfl (enter_of Tryz.func6 (by kernel_rfl) (by kernel_rfl)) (nd m l) (.val _) (nbq rfl) ?_
 by_cases h1 : l.length < 1
 ·conv => whnf
  first | refine oTq (by omega) ?_ | refine oFq (by omega) ?_ | refine oEq (by omega) ?_ | refine oNq (by omega) ?_
  repeat ((conv => whnf); (first | refine ⟨_, ‹_›, ?_⟩ | refine ⟨nbq rfl, _, ‹_›, ?_⟩ | refine ⟨by kernel_rfl, ?_⟩ | exact rfl | exact ⟨nbq rfl, rfl⟩ | refine ⟨by decide, ?_⟩))
 ·by_cases h2 : 6 < l.length
  ·conv => whnf
   first | refine oTq (by omega) ?_ | refine oFq (by omega) ?_ | refine oEq (by omega) ?_ | refine oNq (by omega) ?_
   conv => whnf
   first | refine oTq (by omega) ?_ | refine oFq (by omega) ?_ | refine oEq (by omega) ?_ | refine oNq (by omega) ?_
   repeat ((conv => whnf); (first | refine ⟨_, ‹_›, ?_⟩ | refine ⟨nbq rfl, _, ‹_›, ?_⟩ | refine ⟨by kernel_rfl, ?_⟩ | exact rfl | exact ⟨nbq rfl, rfl⟩ | refine ⟨by decide, ?_⟩))
  ·have hN : l.length * l.length ≤ 6 * 6 := Nat.mul_le_mul (by omega) (by omega)
   have wN : IntKind.i64.wrap (((irows .i8 l).length : Int) * ((irows .i8 l).length : Int)) = ((l.length * l.length : Nat) : Int) := by rw [l2, ← Int.natCast_mul, IntWalk.i64_in _ (by omega)]
   generalize l.length * l.length = N at *
   by_cases h3 : m.length < N
   ·conv => whnf
    first | refine oTq (by omega) ?_ | refine oFq (by omega) ?_ | refine oEq (by omega) ?_ | refine oNq (by omega) ?_
    conv => whnf
    first | refine oTq (by omega) ?_ | refine oFq (by omega) ?_ | refine oEq (by omega) ?_ | refine oNq (by omega) ?_
    conv => whnf
    first | refine oTq (by omega) ?_ | refine oFq (by omega) ?_ | refine oEq (by omega) ?_ | refine oNq (by omega) ?_
    repeat ((conv => whnf); (first | refine ⟨_, ‹_›, ?_⟩ | refine ⟨nbq rfl, _, ‹_›, ?_⟩ | refine ⟨by kernel_rfl, ?_⟩ | exact rfl | exact ⟨nbq rfl, rfl⟩ | refine ⟨by decide, ?_⟩))
   ·conv => whnf
    first | refine oTq (by omega) ?_ | refine oFq (by omega) ?_ | refine oEq (by omega) ?_ | refine oNq (by omega) ?_
    conv => whnf
    first | refine oTq (by omega) ?_ | refine oFq (by omega) ?_ | refine oEq (by omega) ?_ | refine oNq (by omega) ?_
    conv => whnf
    first | refine oTq (by omega) ?_ | refine oFq (by omega) ?_ | refine oEq (by omega) ?_ | refine oNq (by omega) ?_
    conv => whnf
    first | refine oTq (by omega) ?_ | refine oFq (by omega) ?_ | refine oEq (by omega) ?_ | refine oNq (by omega) ?_
    repeat ((conv => whnf); (first | refine ⟨_, ‹_›, ?_⟩ | refine ⟨nbq rfl, _, ‹_›, ?_⟩ | refine ⟨by kernel_rfl, ?_⟩ | exact rfl | exact ⟨nbq rfl, rfl⟩ | refine ⟨by decide, ?_⟩))
set_option maxRecDepth 20000 in
theorem good (hm : ∀ x ∈ m, -128 ≤ x ∧ x < 128) (h0 : 0 < l.length) (h6 : l.length ≤ 6) (h1 : l.length * l.length ≤ m.length) (h2 : m.length ≤ 100) : AC Tryz.prog 6 [.sl 1 (irows .i8 m) false, .sl 1 (irows .i8 l) false] (.pure (.val (.bool true))) := by
 have hAw := awake20_ok
 have lm := irows_len .i8 m
 have ll := irows_len .i8 l
 obtain ⟨n, hn⟩ : ∃ n, n = l.length := ⟨_, rfl⟩
 rw [← hn] at h0 h6 h1 ll
 obtain ⟨N, hN⟩ : ∃ N, N = n * n := ⟨_, rfl⟩
 have hN6 : N ≤ 36 := by rw [hN]; exact Nat.mul_le_mul h6 h6
 have hnN : n ≤ N := by rw [hN]; exact Nat.le_mul_of_pos_left _ h0
 rw [← hN] at h1
 have wN : IntKind.i64.wrap ((n : Int) * (n : Int)) = (N : Int) := by rw [← Int.natCast_mul, ← hN, IntWalk.i64_in _ (by omega)]
 have w1 : IntKind.i64.wrap ((n : Int) + 1) = ((n + 1 : Nat) : Int) := by rw [IntWalk.i64_in _ (by omega)]; omega
 obtain ⟨A, hA⟩ : ∃ A, A = m.take N := ⟨_, rfl⟩
 obtain ⟨U, hU⟩ : ∃ U, U = unitL n := ⟨_, rfl⟩
 have lA : A.length = N := by rw [hA, List.length_take]; omega
 have lU : U.length = N := by rw [hU, unitL_len, hN]
 have bA : ∀ x ∈ A, -128 ≤ x ∧ x ≤ 128 := fun x hx => by
  rw [hA] at hx
  have := hm x (List.mem_of_mem_take hx)
  omega
 have bU : ∀ x ∈ U, -128 ≤ x ∧ x ≤ 128 := by rw [hU]; exact unitL_bound n
 have bi : ∀ L : List Int, (∀ x ∈ L, -128 ≤ x ∧ x ≤ 128) → ∀ x ∈ L, i64b x := fun L h x hx => by have := h x hx; exact ⟨by omega, by omega⟩
 have hv := vS_two n n h6 (by omega)
 have I2 : AC Tryz.prog 13 [.sl 1 (irows .i64 [(n : Int), (n : Int)]) false] (.pure (AA [2] false [] ([(n : Int), (n : Int)].map intX) true)) := AInts_ok [(n : Int), (n : Int)] (by show 2 ≤ 100000; decide) (fun x hx => by simp only [List.mem_cons, List.not_mem_nil, or_false] at hx; exact ⟨by omega, by omega⟩)
 have IA := AInts_ok A (by omega) (bi A bA)
 have IU := AInts_ok U (by omega) (bi U bU)
 have In := AInts_ok (A.take n) (by rw [List.length_take]; omega) (bi _ fun x hx => bA x (List.mem_of_mem_take hx))
 have ln : (A.take n).length = n := by rw [List.length_take]; omega
 have hRA : AC Tryz.prog 22 [AA [2] false [] ([(n : Int), (n : Int)].map intX) true, AA [((A.map intX).length : Int)] false [] (A.map intX) true] (.pure (.tup [AA [(n : Int), (n : Int)] false [] (A.map intX) true, .val (.int .i64 0)])) := Reshape_all [(n : Int), (n : Int)] hv (A.map intX) (by rw [List.length_map, lA, pr_two, hN]) (by rw [pr_two, ← hN]; omega)
 have hRU : AC Tryz.prog 22 [AA [2] false [] ([(n : Int), (n : Int)].map intX) true, AA [((U.map intX).length : Int)] false [] (U.map intX) true] (.pure (.tup [AA [(n : Int), (n : Int)] false [] (U.map intX) true, .val (.int .i64 0)])) := Reshape_all [(n : Int), (n : Int)] hv (U.map intX) (by rw [List.length_map, lU, pr_two, hN]) (by rw [pr_two, ← hN]; omega)
 rw [List.length_map, lA] at hRA
 rw [List.length_map, lU] at hRU
 rw [lA] at IA
 rw [lU] at IU
 rw [ln] at In
 obtain ⟨X, x1, x2, x3⟩ := InnerU A U A n h0 h6 (by rw [lA, hN]) (by rw [lU, hN]) (by rw [lA, hN]) bA bU (fun i hi => by rw [hU]; exact inn_unitR A n h0 i)
 obtain ⟨Y, y1, y2, y3⟩ := InnerU U A A n h0 h6 (by rw [lU, hN]) (by rw [lA, hN]) (by rw [lA, hN]) bU bA (fun i hi => by rw [hU]; exact inn_unitL A n h0 i hi)
 obtain ⟨Z, z1, z2⟩ := OuterU (A.take n) A n h6 ln (by rw [lA, hN]) (fun x hx => bA x (List.mem_of_mem_take hx)) bA
 have szA : ∀ o ∈ A.map intX, Sz (valX o) 1000 := fun o ho => by
  have h : valX o ∈ (A.map intX).map valX := List.mem_map_of_mem ho
  rw [int_vals] at h
  exact (int_szs bA _ h).mono (by decide)
 have sX := Same_ok [(n : Int), (n : Int)] (A.map intX) X (by show 2 ≤ 1000; decide) (by rw [int_vals, x1]) (by rw [List.length_map]; omega) (ints_ok A) x2 szA
 have sY := Same_ok [(n : Int), (n : Int)] (A.map intX) Y (by show 2 ≤ 1000; decide) (by rw [int_vals, y1]) (by rw [List.length_map]; omega) (ints_ok A) y2 szA
 rw [← hN] at z2
 have hSh := Shape_ok [(n : Int), (N : Int)] false [] Z (by show 2 ≤ 1000000; decide)
 have hIS := IntsSame_ok [(n : Int), (N : Int)] [(n : Int), (N : Int)] (by show 2 ≤ 1000000; decide) (by show 2 ≤ 1000000; decide)
 rw [decide_eq_true rfl] at hIS
 have eB : irows .i64 [(n : Int), (N : Int)] = [[.val (.int .i64 (n : Int))], [.val (.int .i64 (IntKind.i64.wrap ((n : Int) * (n : Int))))]] := by rw [wN]; rfl
 have hIS : AC Tryz.prog 26 [.sl 1 (irows .i64 [(n : Int), (N : Int)]) false, .sl 1 [[.val (.int .i64 (n : Int))], [.val (.int .i64 (IntKind.i64.wrap ((n : Int) * (n : Int))))]] false] (.pure (.val (.bool true))) := by rw [← eB]; exact hIS
 have lAr := irows_len .i64 A
 have lUr := irows_len .i64 U
 have fA : irows .i64 A = List.take N (List.drop 0 (irows .i64 A)) := by rw [List.drop_zero, List.take_of_length_le (by omega)]
 have fU : irows .i64 U = List.take N (List.drop 0 (irows .i64 U)) := by rw [List.drop_zero, List.take_of_length_le (by omega)]
 have fn : irows .i64 (A.take n) = List.drop 0 (List.take ((n : Int)).toNat (List.take N (List.drop 0 (irows .i64 A)))) := by rw [← fA, List.drop_zero, Int.toNat_natCast, irows_take]
 rw [fn] at In
 rw [fA] at IA
 rw [fU] at IU
 have lAf : (List.take N (List.drop 0 (irows .i64 A))).length = N := by rw [← fA, lAr, lA]
 refine AC.of_sw TTok Tryz.func6 rfl (enter_of Tryz.func6 (by kernel_rfl) (by kernel_rfl)) (nd m l) (.val _) (nbq rfl) ?_
 generalize hgl : irows .i8 l = rl at *
 generalize A.take n = An at *
 unfold AA at *
 refine SW.seqA TTok ?_
 conv => whnf
 refine SW.seqA TTok ?_
 conv => whnf
 rw [ll]
 refine SW.seqA TTok ?_
 conv => whnf
 first | refine oTq (by omega) ?_ | refine oFq (by omega) ?_ | refine oEq (by omega) ?_ | refine oNq (by omega) ?_
 conv => whnf
 first | refine oTq (by omega) ?_ | refine oFq (by omega) ?_ | refine oEq (by omega) ?_ | refine oNq (by omega) ?_
 conv => whnf
 first | refine oTq (by omega) ?_ | refine oFq (by omega) ?_ | refine oEq (by omega) ?_ | refine oNq (by omega) ?_
 conv => whnf
 first | refine oTq (by omega) ?_ | refine oFq (by omega) ?_ | refine oEq (by omega) ?_ | refine oNq (by omega) ?_
 conv => whnf
 refine SW.seqA TTok ?_
 conv => whnf
 refine SW.nil 6 1 rfl ?_
 refine SW.nil 7 1 rfl ?_
 refine SW.cutM TTok (fun _ : Unit => [(5, .val (.int .i64 (n : Int))), (6, .own 200 0 N), (7, .own 208 0 N)]) (fun _ => [(200, .cells 1 (irows .i64 A)), (208, .cells 1 (irows .i64 U))]) 464 150 rfl (fun _ => True) ?_ (fun _ _ => ?_)
 ·conv => whnf
  refine SW.loopM TTok (fun i : Nat => [(0, .sl 1 (irows .i8 m) false), (5, .val (.int .i64 (n : Int))), (6, .own 200 0 i), (7, .own 208 0 i), (8, .val (.int .i64 (i : Int)))]) (fun i => [(200, .cells 1 (irows .i64 (A.take i))), (208, .cells 1 (irows .i64 (U.take i)))]) 224 150 rfl (fun i => N - i) (fun i => i ≤ N) 0 [] (Nat.zero_le _)
   ⟨q2r, q2r, q2r, q2r, q2r, trivial⟩ ⟨q3r, q3r, trivial⟩ rfl ?_
  intro i hJ
  have hi : i ≤ N := hJ
  clear hJ
  have lr1 : (irows .i64 (A.take i)).length = i := by rw [irows_len, List.length_take]; omega
  have lr2 : (irows .i64 (U.take i)).length = i := by rw [irows_len, List.length_take]; omega
  by_cases hlt : i < N
  ·have eI : IntKind.i64.wrap ((i : Int) + 1) = ((i + 1 : Nat) : Int) := by rw [IntWalk.i64_in _ (by omega)]; omega
   have him : i < m.length := by omega
   have hg := irows_get .i8 m (List.getElem?_eq_getElem him)
   have hx := hm _ (List.getElem_mem him)
   have hAi : A[i]'(by omega) = m[i] := by subst hA; rw [List.getElem_take]
   have hs1 : irows .i64 (A.take i) ++ [[.val (.int .i64 m[i])]] = irows .i64 (A.take (i + 1)) := by
    rw [take_snoc (show i < A.length by omega), ← irows_append, hAi]; rfl
   have hUi : U[i]'(by omega) = if i % (n + 1) = 0 then 1 else 0 := by
    have h : U[i]? = some (if i % (n + 1) = 0 then 1 else 0) := by
     rw [hU]
     unfold unitL
     rw [List.getElem?_map, List.getElem?_range (by rw [← hN]; exact hlt)]
     rfl
    rw [List.getElem?_eq_getElem (by omega)] at h
    exact Option.some.inj h
   have hs2 : irows .i64 (U.take i) ++ [[.val (.int .i64 (if i % (n + 1) = 0 then 1 else 0))]] = irows .i64 (U.take (i + 1)) := by
    rw [take_snoc (show i < U.length by omega), ← irows_append, hUi]; rfl
   have eM : ((i : Int)).tmod (IntKind.i64.wrap ((n : Int) + 1)) = ((i % (n + 1) : Nat) : Int) := by
    rw [w1, Int.tmod_eq_emod_of_nonneg (Int.natCast_nonneg _), ← Int.natCast_emod]
   obtain ⟨x, hxx⟩ : ∃ x, x = m[i] := ⟨_, rfl⟩
   rw [← hxx] at hg hx hs1
   have eX : IntKind.i64.wrap x = x := by rw [IntWalk.i64_in _ (by omega)]
   obtain ⟨q, hq⟩ : ∃ q, q = i % (n + 1) := ⟨_, rfl⟩
   rw [← hq] at eM hs2
   conv => whnf
   first | refine oTq (by omega) ?_ | refine oFq (by omega) ?_ | refine oEq (by omega) ?_ | refine oNq (by omega) ?_
   conv => whnf
   refine ⟨_, ⟨by omega, by rw [Int.toNat_natCast]; exact hg⟩, ?_⟩
   conv => whnf
   refine ⟨⟨by show 0 + i ≤ _; omega, by show (i + 1) * 8 ≤ 140737488355328; omega, Nat.le_refl _⟩, ?_⟩
   conv => whnf
   refine ⟨by omega, ?_⟩
   by_cases hq0 : q = 0
   ·rw [if_pos hq0] at hs2
    conv => whnf
    first | refine oTq (by omega) ?_ | refine oFq (by omega) ?_ | refine oEq (by omega) ?_ | refine oNq (by omega) ?_
    conv => whnf
    refine ⟨⟨by show 0 + i ≤ _; omega, by show (i + 1) * 8 ≤ 140737488355328; omega, Nat.le_refl _⟩, ?_⟩
    conv => whnf
    refine ⟨i + 1, [(200, 320), (208, 392)], (by show N - (i + 1) < N - i; omega), hlt, ⟨q2r, q2r, q2r, q2r, ⟨valI eI, rfl⟩, trivial⟩, ⟨⟨rfl, .inl ⟨celE ?_, irows_noid _ _⟩⟩, ⟨rfl, .inl ⟨celE ?_, irows_noid _ _⟩⟩, trivial⟩, rfl⟩
    ·rw [← hs1]
     show List.take i (List.drop 0 (irows .i64 (A.take i))) ++ [[.val (.int .i64 (IntKind.i64.wrap x))]] = _
     rw [List.drop_zero, List.take_of_length_le (by omega), eX]
    ·rw [← hs2]
     show List.take i (List.drop 0 (irows .i64 (U.take i))) ++ _ = _
     rw [List.drop_zero, List.take_of_length_le (by omega)]
     rfl
   ·rw [if_neg hq0] at hs2
    conv => whnf
    first | refine oTq (by omega) ?_ | refine oFq (by omega) ?_ | refine oEq (by omega) ?_ | refine oNq (by omega) ?_
    conv => whnf
    refine ⟨⟨by show 0 + i ≤ _; omega, by show (i + 1) * 8 ≤ 140737488355328; omega, Nat.le_refl _⟩, ?_⟩
    conv => whnf
    refine ⟨i + 1, [(200, 320), (208, 392)], (by show N - (i + 1) < N - i; omega), hlt, ⟨q2r, q2r, q2r, q2r, ⟨valI eI, rfl⟩, trivial⟩, ⟨⟨rfl, .inl ⟨celE ?_, irows_noid _ _⟩⟩, ⟨rfl, .inl ⟨celE ?_, irows_noid _ _⟩⟩, trivial⟩, rfl⟩
    ·rw [← hs1]
     show List.take i (List.drop 0 (irows .i64 (A.take i))) ++ [[.val (.int .i64 (IntKind.i64.wrap x))]] = _
     rw [List.drop_zero, List.take_of_length_le (by omega), eX]
    ·rw [← hs2]
     show List.take i (List.drop 0 (irows .i64 (U.take i))) ++ _ = _
     rw [List.drop_zero, List.take_of_length_le (by omega)]
     rfl
  ·have hie : i = N := by omega
   have e1 : A.take i = A := List.take_of_length_le (by omega)
   have e2 : U.take i = U := List.take_of_length_le (by omega)
   rw [e1, e2, hie]
   conv => whnf
   first | refine oTq (by omega) ?_ | refine oFq (by omega) ?_ | refine oEq (by omega) ?_ | refine oNq (by omega) ?_
   conv => whnf
   exact ⟨(), [], trivial, ⟨q2r, q2r, q2r, trivial⟩, ⟨⟨rfl, .inl ⟨rfl, irows_noid _ _⟩⟩, ⟨rfl, .inl ⟨rfl, irows_noid _ _⟩⟩, trivial⟩, rfl⟩
 refine SW.weak (Wk.frz 6 200 0 N 1 rfl rfl (by decide) (by show 0 + N ≤ (irows .i64 A).length; omega) (by show NoId (.sl 1 (List.take N (List.drop 0 (irows .i64 A))) false); rw [← fA]; exact noid_sl _ _ _)) rfl ?_
 refine SW.weak (Wk.frz 7 208 0 N 1 rfl rfl (by decide) (by show 0 + N ≤ (irows .i64 U).length; omega) (by show NoId (.sl 1 (List.take N (List.drop 0 (irows .i64 U))) false); rw [← fU]; exact noid_sl _ _ _)) rfl ?_
 refine axp_sound TTok _ _ _ ?_
 conv => whnf
 refine ⟨(nbq rfl), _, I2, ?_⟩
 conv => whnf
 refine ⟨_, IA, ?_⟩
 conv => whnf
 refine ⟨_, hRA, ?_⟩
 conv => whnf
 refine ⟨(nbq rfl), _, I2, ?_⟩
 conv => whnf
 refine ⟨_, IU, ?_⟩
 conv => whnf
 refine ⟨_, hRU, ?_⟩
 conv => whnf
 refine ⟨_, x3, ?_⟩
 conv => whnf
 refine ⟨_, y3, ?_⟩
 conv => whnf
 refine ⟨by omega, ?_⟩
 conv => whnf
 refine ⟨_, In, ?_⟩
 conv => whnf
 refine ⟨_, IA, ?_⟩
 conv => whnf
 refine ⟨_, z2, ?_⟩
 conv => whnf
 refine ⟨_, sX, ?_⟩
 conv => whnf
 refine ⟨_, sY, ?_⟩
 conv => whnf
 refine ⟨_, hSh, ?_⟩
 conv => whnf
 refine ⟨(nbq rfl), _, hIS, ?_⟩
 repeat ((conv => whnf); (first | refine ⟨_, ‹_›, ?_⟩ | refine ⟨nbq rfl, _, ‹_›, ?_⟩ | refine ⟨by kernel_rfl, ?_⟩ | exact rfl | exact ⟨nbq rfl, rfl⟩ | refine ⟨by decide, ?_⟩))
end
theorem holds (m l : List Int) (zm : m.length < 9223372036854775808) (hm : ∀ n ∈ m, -128 ≤ n ∧ n < 128) (_zl : l.length < 9223372036854775808) (_hl : ∀ n ∈ l, -128 ≤ n ∧ n < 128) : AC Tryz.prog 6 [.sl 1 (irows .i8 m) false, .sl 1 (irows .i8 l) false] (.pure (.val (.bool true))) := by
 by_cases h : l.length < 1 ∨ 6 < l.length ∨ m.length < l.length * l.length ∨ 100 < m.length
 ·exact bad m l h zm
 ·exact good m l hm (by omega) (by omega) (by omega) (by omega)
end
end Go.Proofs.YtbdklokfijjifaaGreat.productUnit
