/- Arrays brought together along an axis: parts (the program's contracts). -/
import Derived.Test.YtbdklokfijjifaaGreatB5
set_option linter.unusedVariables false
namespace Go.Proofs.YtbdklokfijjifaaGreat
open Go Go.AL NM
section
theorem wrap_nat' (a : Nat) (h : a < 9223372036854775808) : IntKind.i64.wrap (a : Int) = (a : Int) := IntWalk.i64_in _ (by omega)
theorem place_wrap (o n K I j q : Nat) (h1 : o * n + K ≤ q) (h2 : q * I + j ≤ 5000) (hI : 0 < I) :
  IntKind.i64.wrap (IntKind.i64.wrap (IntKind.i64.wrap (IntKind.i64.wrap ((o : Int) * (n : Int)) + (K : Int)) * (I : Int)) + (j : Int)) = (((o * n + K) * I + j : Nat) : Int) := by
 have a1 : (o * n + K) * I ≤ q * I := Nat.mul_le_mul_right _ h1
 have a2 : q ≤ q * I := Nat.le_mul_of_pos_right _ hI
 rw [← Int.natCast_mul, wrap_nat' _ (by omega), ← Int.natCast_add, wrap_nat' _ (by omega), ← Int.natCast_mul, wrap_nat' _ (by omega), ← Int.natCast_add, wrap_nat' _ (by omega)]
theorem axis_split {s : List Int} {k : Nat} (hk : k < s.length) (hv : vS s) : ∃ n : Nat, s[k] = (n : Int) ∧ s = s.take k ++ (n : Int) :: s.drop (k + 1) ∧ vS (s.take k ++ s.drop (k + 1)) ∧ pr s = pr (s.take k) * (n * pr (s.drop (k + 1))) ∧ pr (s.take k ++ s.drop (k + 1)) = pr (s.take k) * pr (s.drop (k + 1)) ∧ pr s ≤ 4096 ∧ pr (s.take k) * pr (s.drop (k + 1)) ≤ 4096 ∧ vS (s.take k) ∧ vS (s.drop (k + 1)) := by
 have h0 := hv.2.1 _ (List.getElem_mem hk)
 have hs := mid_split hk
 have hn : s[k] = (s[k].toNat : Int) := (Int.toNat_of_nonneg h0).symm
 have hv' := hv
 rw [hs] at hv'
 have hr : vS (s.take k ++ s.drop (k + 1)) := by
  rw [vS_mid] at hv'
  rw [vS_app]
  obtain ⟨a1, a2, a3, a4, a5⟩ := hv'
  refine ⟨by omega, a2, a4, ?_⟩
  have e0 := pm_pos (s.take k)
  have e1 : pmI (s.drop (k + 1)) ≤ max 1 s[k] * pmI (s.drop (k + 1)) := by
   have e2 := pm_pos (s.drop (k + 1))
   have : 1 * pmI (s.drop (k + 1)) ≤ max 1 s[k] * pmI (s.drop (k + 1)) := Int.mul_le_mul_of_nonneg_right (by omega) (by omega)
   rw [Int.one_mul] at this
   exact this
  have e3 : pmI (s.take k) * pmI (s.drop (k + 1)) ≤ pmI (s.take k) * (max 1 s[k] * pmI (s.drop (k + 1))) := Int.mul_le_mul_of_nonneg_left e1 (by omega)
  omega
 have hp : pr s = pr (s.take k) * (s[k].toNat * pr (s.drop (k + 1))) := by
  conv => lhs; rw [hs]
  rw [pr_append]
  rfl
 have hpr : pr (s.take k ++ s.drop (k + 1)) = pr (s.take k) * pr (s.drop (k + 1)) := pr_append _ _
 refine ⟨s[k].toNat, hn, by rw [← hn]; exact hs, hr, hp, hpr, (vS_pr hv).2, by rw [← hpr]; exact (vS_pr hr).2, (vS_parts hr).1, (vS_parts hr).2⟩
theorem kinds_c {s : List Int} {c : Bool} {a b : Nat} (hv : vS s) (h : kinds s c a b) : (c = true → a = pr s ∧ b = 0) ∧ (c = false → b = pr s ∧ a = 0) := by
 have hc := (vS_pr hv).1
 unfold kinds at h
 rw [hc] at h
 cases c
 ·exact ⟨fun h => Bool.noConfusion h, fun _ => ⟨by have := h.1; omega, h.2⟩⟩
 ·exact ⟨fun _ => ⟨by have := h.1; omega, h.2⟩, fun h => Bool.noConfusion h⟩
set_option maxRecDepth 20000 in
theorem slab_ok (s : List Int) (k : Nat) (c : Bool) (tx : List Int) (na : List (Option (Rat × Nat))) (hk : k < s.length) (hv : vS s) (ka : kinds s c tx.length na.length) (n : Nat) (hn : s[k] = (n : Int)) (i : Nat) (hi : i < n) :
  AC Tryz.prog 90 [AA s c tx na true, .val (.int .i64 (k : Int)), .val (.int .i64 (i : Int))] (.pure (AA (s.take k ++ s.drop (k + 1)) c
   (if c then (slabL n (pr (s.drop (k + 1))) (pr (s.take k) * pr (s.drop (k + 1))) i).map (getT tx) else [])
   (if c then [] else (slabL n (pr (s.drop (k + 1))) (pr (s.take k) * pr (s.drop (k + 1))) i).map (getX na)) true)) := by
 have h8 := hv.1
 obtain ⟨n', hn', _, hr, hp, hpr, p4, r4, vu, vv⟩ := axis_split hk hv
 have : n' = n := by rw [hn] at hn'; omega
 subst this
 have hS := Shape_ok s c tx na (by omega)
 have hSp := Split_ok s k hk hv
 rw [hn] at hSp
 have hWo := Without_ok s k hk (by omega)
 have l2 := (kinds_c hv ka)
 have ltx : tx.length ≤ 4096 ∧ na.length ≤ 4096 := by
  cases c
  ·have := l2.2 rfl; omega
  ·have := l2.1 rfl; omega
 obtain ⟨O, hO⟩ : ∃ O, O = pr (s.take k) := ⟨_, rfl⟩
 obtain ⟨I, hI⟩ : ∃ I, I = pr (s.drop (k + 1)) := ⟨_, rfl⟩
 rw [← hO, ← hI] at hp hpr r4 hSp ⊢
 rw [hp] at p4
 obtain ⟨rest, hrest⟩ : ∃ rest, rest = s.take k ++ s.drop (k + 1) := ⟨_, rfl⟩
 rw [← hrest] at hr hpr hWo ⊢
 have lO : O ≤ 4096 := by rw [hO]; exact (vS_pr vu).2
 have lI : I ≤ 4096 := by rw [hI]; exact (vS_pr vv).2
 have ln : n' ≤ 4096 := by have := vS_dim hv (List.getElem_mem hk); omega
 obtain ⟨Y, hY⟩ : ∃ Y, Y = slabL n' I (O * I) i := ⟨_, rfl⟩
 rw [← hY]
 have lY : Y.length = O * I := by rw [hY]; exact slabL_len _ _ _ _
 have hYr : ∀ r (h : r < O * I), Y[r]'(by omega) = (((r / I * n' + i) * I + r % I : Nat) : Int) := fun r h => by subst hY; unfold slabL; rw [List.getElem_map, List.getElem_range]
 have hc1 : cntI rest = (Y.length : Int) := by rw [(vS_pr hr).1, hpr, lY]
 have lYr := irows_len .i64 Y
 have hP : AC Tryz.prog 108 [AA s c tx na true, .sl 1 (irows .i64 rest) false, .sl 1 (irows .i64 Y) false] (.pure (.tup [AA rest c (if c then Y.map (getT tx) else []) (if c then [] else Y.map (getX na)) true, .val (.bool true)])) := by
  cases c
  ·exact PickN_ok s tx na rest Y hr hc1 (by omega)
  ·exact PickT_ok s tx na rest Y hr hc1 (by omega)
 have eP : irows .i64 Y = List.take (O * I) (List.drop 0 (irows .i64 Y)) := by rw [List.drop_zero, List.take_of_length_le (by omega)]
 rw [eP] at hP
 have eOI : IntKind.i64.wrap ((O : Int) * (I : Int)) = ((O * I : Nat) : Int) := by rw [← Int.natCast_mul, wrap_nat' _ (by omega)]
 refine AC.of_body TTok Tryz.func90 rfl (enter_of Tryz.func90 (by kernel_rfl) (by kernel_rfl)) (noid3 (AA_noid _ _ _ _ _) (.val _) (.val _)) (AA_noid _ _ _ _ _) (nbq rfl) ?_
 unfold AA at *
 conv => whnf
 refine ⟨_, hS, ?_⟩
 conv => whnf
 refine ⟨_, hSp, ?_⟩
 conv => whnf
 refine ⟨⟨by decide, by rw [eOI]; omega, by rw [eOI]; show ((O * I : Nat) : Int) * ((8 : Nat) : Int) ≤ 140737488355328; omega⟩, ?_⟩
 conv => whnf
 refine SW.loopM TTok (fun o : Nat => [(1, .val (.int .i64 (k : Int))), (2, .val (.int .i64 (i : Int))), (3, .lp 0 0), (6, .lp 8 0), (7, .sl 1 (irows .i64 s) false), (9, .val (.int .i64 (n' : Int))), (10, .val (.int .i64 (I : Int))), (12, .own 160 0 (o * I)), (31, .val (.int .i64 (O : Int))), (32, .val (.int .i64 (o : Int)))])
  (fun o => [(0, .cells 5 [[.sl 1 (irows .i64 s) false, .val (.bool c), .sl 1 (irows .i32 tx) false, .sl 3 (na.map rowX) false, .val (.bool true)]]), (8, .cells 5 [[.sl 0 [] true, .val (.bool false), .sl 0 [] true, .sl 0 [] true, .val (.bool false)]]), (160, .cells 1 (irows .i64 (Y.take (o * I))))]) 192 63 rfl (fun o => O - o) (fun o => o ≤ O) 0 [] (Nat.zero_le _)
  ⟨q2r, q2r, q2r, q2r, q2r, q2r, q2r, ⟨ownE rfl (Nat.zero_mul I).symm, rfl⟩, q2r, q2r, trivial⟩ ⟨q3r, q3r, ⟨rfl, .inl ⟨celE (by rw [Nat.zero_mul]; rfl), irows_noid _ _⟩⟩, trivial⟩ rfl ?_
 intro o hJ
 have ho : o ≤ O := hJ
 clear hJ
 by_cases hlt : o < O
 ·have eO : IntKind.i64.wrap ((o : Int) + 1) = ((o + 1 : Nat) : Int) := by rw [IntWalk.i64_in _ (by omega)]; omega
  conv => whnf
  first | refine oTq (by omega) ?_ | refine oFq (by omega) ?_ | refine oEq (by omega) ?_ | refine oNq (by omega) ?_
  conv => whnf
  refine SW.loopM TTok (fun j : Nat => [(1, .val (.int .i64 (k : Int))), (2, .val (.int .i64 (i : Int))), (3, .lp 0 0), (6, .lp 8 0), (7, .sl 1 (irows .i64 s) false), (9, .val (.int .i64 (n' : Int))), (10, .val (.int .i64 (I : Int))), (12, .own 160 0 (o * I + j)), (13, .val (.int .i64 (o : Int))), (31, .val (.int .i64 (O : Int))), (32, .val (.int .i64 (o : Int))), (35, .val (.int .i64 (I : Int))), (36, .val (.int .i64 (j : Int)))])
   (fun j => [(0, .cells 5 [[.sl 1 (irows .i64 s) false, .val (.bool c), .sl 1 (irows .i32 tx) false, .sl 3 (na.map rowX) false, .val (.bool true)]]), (8, .cells 5 [[.sl 0 [] true, .val (.bool false), .sl 0 [] true, .sl 0 [] true, .val (.bool false)]]), (160, .cells 1 (irows .i64 (Y.take (o * I + j))))]) 232 63 rfl (fun j => I - j) (fun j => j ≤ I) 0 [] (Nat.zero_le _)
   ⟨q2r, q2r, q2r, q2r, q2r, q2r, q2r, q2r, q2r, q2r, q2r, q2r, q2r, trivial⟩ ⟨q3r, q3r, ⟨rfl, .inl ⟨rfl, irows_noid _ _⟩⟩, trivial⟩ rfl ?_
  intro j hJ
  have hj : j ≤ I := hJ
  clear hJ
  have hoI : (o + 1) * I ≤ O * I := Nat.mul_le_mul_right _ hlt
  rw [Nat.add_mul, Nat.one_mul] at hoI
  have lr : (irows .i64 (Y.take (o * I + j))).length = o * I + j := by rw [irows_len, List.length_take]; omega
  by_cases hjt : j < I
  ·have eJ : IntKind.i64.wrap ((j : Int) + 1) = ((j + 1 : Nat) : Int) := by rw [IntWalk.i64_in _ (by omega)]; omega
   have hr' : o * I + j < O * I := by omega
   have hpl := place_lt (O := O) (I := I) (n := n') (r := o * I + j) (i := i) hr' hi
   have d1 : (o * I + j) / I = o := by rw [Nat.mul_comm, Nat.mul_add_div (by omega), Nat.div_eq_of_lt hjt, Nat.add_zero]
   have d2 : (o * I + j) % I = j := by rw [Nat.mul_comm, Nat.mul_add_mod, Nat.mod_eq_of_lt hjt]
   have hYj := hYr _ hr'
   rw [d1, d2] at hYj hpl
   have hsn : irows .i64 (Y.take (o * I + j)) ++ [[.val (.int .i64 (((o * n' + i) * I + j : Nat) : Int))]] = irows .i64 (Y.take (o * I + (j + 1))) := by
    rw [show o * I + (j + 1) = o * I + j + 1 by omega, take_snoc (show o * I + j < Y.length by omega), hYj, ← irows_append]; rfl
   have htk : List.take (o * I + j) (List.drop 0 (irows .i64 (Y.take (o * I + j)))) = irows .i64 (Y.take (o * I + j)) := by rw [List.drop_zero, List.take_of_length_le (by omega)]
   have P1 := place_wrap o n' i I j (o * n' + i) (Nat.le_refl _) (by omega) (by omega)
   conv => whnf
   first | refine oTq (by omega) ?_ | refine oFq (by omega) ?_ | refine oEq (by omega) ?_ | refine oNq (by omega) ?_
   conv => whnf
   refine ⟨⟨by show 0 + (o * I + j) ≤ _; omega, by show (o * I + j + 1) * 8 ≤ 140737488355328; omega, nbq rfl⟩, ?_⟩
   conv => whnf
   refine ⟨j + 1, [(160, 344)], (by show I - (j + 1) < I - j; omega), hjt, ⟨q2r, q2r, q2r, q2r, q2r, q2r, q2r, q2r, q2r, q2r, q2r, q2r, ⟨valI eJ, rfl⟩, trivial⟩, ⟨q3r, q3r, ⟨rfl, .inl ⟨celE ?_, irows_noid _ _⟩⟩, trivial⟩, rfl⟩
   rw [← hsn]
   show List.take (o * I + j) (List.drop 0 (irows .i64 (Y.take (o * I + j)))) ++ [[.val (.int .i64 (IntKind.i64.wrap (IntKind.i64.wrap (IntKind.i64.wrap (IntKind.i64.wrap ((o : Int) * (n' : Int)) + (i : Int)) * (I : Int)) + (j : Int))))]] = _
   rw [htk, P1]
  ·have hje : j = I := by omega
   conv => whnf
   first | refine oTq (by omega) ?_ | refine oFq (by omega) ?_ | refine oEq (by omega) ?_ | refine oNq (by omega) ?_
   conv => whnf
   exact ⟨o + 1, [], (by show O - (o + 1) < O - o; omega), hlt, ⟨q2r, q2r, q2r, q2r, q2r, q2r, q2r, ⟨ownE rfl (by rw [hje, Nat.add_mul, Nat.one_mul]), rfl⟩, q2r, ⟨valI eO, rfl⟩, trivial⟩, ⟨q3r, q3r, ⟨rfl, .inl ⟨celE (by rw [hje, Nat.add_mul, Nat.one_mul]), irows_noid _ _⟩⟩, trivial⟩, rfl⟩
 ·have hoe : o = O := by omega
  subst hoe
  have e1 : Y.take (o * I) = Y := List.take_of_length_le (by omega)
  rw [e1]
  conv => whnf
  first | refine oTq (by omega) ?_ | refine oFq (by omega) ?_ | refine oEq (by omega) ?_ | refine oNq (by omega) ?_
  conv => whnf
  refine ⟨_, hWo, ?_⟩
  conv => whnf
  refine ⟨by show 0 + o * I ≤ _; omega, _, hP, ?_⟩
  conv => whnf
  refine ⟨by kernel_rfl, ?_⟩
  repeat ((conv => whnf); (first | refine ⟨_, ‹_›, ?_⟩ | refine ⟨nbq rfl, _, ‹_›, ?_⟩ | refine ⟨by kernel_rfl, ?_⟩ | exact rfl | exact ⟨nbq rfl, rfl⟩ | refine ⟨by decide, ?_⟩))
end
section
def resF (sh : List Int) (ch : Bool) (tx : List Int) (na : List (Option (Rat × Nat))) (E : Int) : AV := if E = 0 then .tup [AA sh ch tx na true, .val (.int .i64 0)] else .tup [AA [] false [] [] false, .val (.int .i64 E)]
theorem resF_noid (sh : List Int) (ch : Bool) (tx : List Int) (na : List (Option (Rat × Nat))) (E : Int) : NoId (resF sh ch tx na E) := by
 unfold resF
 split
 ·exact .tup _ (noid2 (AA_noid _ _ _ _ _) (.val _))
 ·exact .tup _ (noid2 (AA_noid _ _ _ _ _) (.val _))
def StF (c most : Int) (rest : List Int) (ch : Bool) (tx : List Int) (qs : List Rat) (t n I R i : Nat) (x : Bool × List Int × List (Option (Rat × Nat))) : Prop :=
 x.1 = (ch && decide (i + 1 = t)) ∧ kinds rest x.1 x.2.1.length x.2.2.length ∧ (∀ o ∈ x.2.2, okX o) ∧ (∀ q ∈ x.2.2.map valX, Sz q 20) ∧ ∀ r, r < R → elA x.1 x.2.1 (x.2.2.map valX) r = (foldE c most ((lineE ch tx qs t n I r).drop i)).1
def slabX (ch : Bool) (tx : List Int) (na : List (Option (Rat × Nat))) (n I R i : Nat) : Bool × List Int × List (Option (Rat × Nat)) :=
 (ch, if ch then (slabL n I R i).map (getT tx) else [], if ch then [] else (slabL n I R i).map (getX na))
theorem getX_map (na : List (Option (Rat × Nat))) (L : List Int) : (L.map (getX na)).map valX = L.map (getQ (na.map valX)) := by
 rw [List.map_map]
 exact List.map_congr_left fun k _ => getX_val na k
theorem ifnil {c : Bool} {α β : Type} (f : List α → List β) (hf : f [] = []) (l : List α) : f (if c then [] else l) = if c then [] else f l := by
 cases c <;> simp [hf]
theorem slab_el (ch : Bool) (tx : List Int) (na : List (Option (Rat × Nat))) (qs : List Rat) (na1 : na.map valX = qs) (n I O : Nat) (k1 : ch = true → na = [] ∧ tx.length = O * (n * I)) (k2 : ch = false → tx = [] ∧ na.length = O * (n * I)) (i : Nat) (hi : i < n) (r : Nat) (hrr : r < O * I) : elA ch (slabX ch tx na n I (O * I) i).2.1 ((slabX ch tx na n I (O * I) i).2.2.map valX) r = elA ch tx qs ((r / I * n + i) * I + r % I) := by
 have e : (slabX ch tx na n I (O * I) i).2.2.map valX = if ch then [] else (slabL n I (O * I) i).map (getQ qs) := by
  unfold slabX
  show List.map valX (if ch then [] else (slabL n I (O * I) i).map (getX na)) = _
  rw [ifnil (List.map valX) rfl, getX_map, na1]
 rw [e]
 unfold slabX
 refine el_slab hrr (fun h => ?_) (fun h => (k2 h).1)
 obtain ⟨g1, g2⟩ := k1 h
 have := place_lt (n := n) hrr hi
 exact ⟨by rw [← na1, g1]; rfl, by omega⟩
section
variable (c most : Int) (hc : isTwo c) (hm : most ≤ 200) (ch : Bool) (tx : List Int) (na : List (Option (Rat × Nat))) (qs : List Rat) (na1 : na.map valX = qs) (oa : ∀ o ∈ na, okX o) (hQ : ∀ q ∈ qs, Sz q 20) (rest : List Int) (hr : vS rest) (n I O : Nat)
 (hR : pr rest = O * I) (h5 : O * I ≤ 500) (k1 : ch = true → na = [] ∧ tx.length = O * (n * I)) (k2 : ch = false → tx = [] ∧ na.length = O * (n * I))
include na1 oa hQ hr hR k1 k2
theorem slab_kinds (i : Nat) : kinds rest ch (slabX ch tx na n I (O * I) i).2.1.length (slabX ch tx na n I (O * I) i).2.2.length ∧ (∀ o ∈ (slabX ch tx na n I (O * I) i).2.2, okX o) ∧ ∀ q ∈ (slabX ch tx na n I (O * I) i).2.2.map valX, Sz q 20 := by
 have hcn := (vS_pr hr).1
 rw [hR] at hcn
 unfold slabX
 cases ch
 ·refine ⟨?_, ?_, ?_⟩
  ·show ((((slabL n I (O * I) i).map (getX na)).length : Nat) : Int) = cntI rest ∧ (0 = 0)
   rw [List.length_map, slabL_len, hcn]
   exact q2r
  ·intro o ho
   have ho : o ∈ (slabL n I (O * I) i).map (getX na) := ho
   obtain ⟨k, _, rfl⟩ := List.mem_map.1 ho
   exact getX_ok oa k
  ·intro q hq
   have hq : q ∈ ((slabL n I (O * I) i).map (getX na)).map valX := hq
   rw [getX_map, na1] at hq
   obtain ⟨k, _, rfl⟩ := List.mem_map.1 hq
   unfold getQ
   split
   ·exact getD_sz (by decide) hQ _
   ·exact Sz_zero.mono (by decide)
 ·refine ⟨?_, (fun o ho => nomatch ho), (fun q hq => nomatch hq)⟩
  show ((((slabL n I (O * I) i).map (getT tx)).length : Nat) : Int) = cntI rest ∧ (0 = 0)
  rw [List.length_map, slabL_len, hcn]
  exact q2r
theorem StF_base (t : Nat) (h0 : 0 < t) (ht : t ≤ n) : StF c most rest ch tx qs t n I (O * I) (t - 1) (slabX ch tx na n I (O * I) (t - 1)) := by
 obtain ⟨g1, g2, g3⟩ := slab_kinds ch tx na qs na1 oa hQ rest hr n I O hR k1 k2 (t - 1)
 refine ⟨?_, g1, g2, g3, fun r hrr => ?_⟩
 ·show ch = _
  rw [decide_eq_true (by omega), Bool.and_true]
 ·rw [lineE_last _ _ _ _ _ _ _ _ _ h0]
  exact slab_el ch tx na qs na1 n I O k1 k2 (t - 1) (by omega) r hrr
include hc hm h5
theorem StF_step (t : Nat) (ht : t ≤ n) (hb : ∀ i r, r < O * I → (pairE c most (elA ch tx qs ((r / I * n + i) * I + r % I)) (foldE c most ((lineE ch tx qs t n I r).drop (i + 1))).1).2 = 0 → Sz (pairE c most (elA ch tx qs ((r / I * n + i) * I + r % I)) (foldE c most ((lineE ch tx qs t n I r).drop (i + 1))).1).1 20) (i : Nat) (hi : i + 1 < t) (x : Bool × List Int × List (Option (Rat × Nat))) (hx : StF c most rest ch tx qs t n I (O * I) (i + 1) x) (hz : rowsE c most (rowsL ch tx qs t n I (O * I)) (i + 1) = 0) :
  ∃ l : List (Option (Rat × Nat)), (rowsE c most (rowsL ch tx qs t n I (O * I)) i = 0 → StF c most rest ch tx qs t n I (O * I) i (false, [], l)) ∧
   AC Tryz.prog 66 [.val (.int .i32 c), AA rest ch (slabX ch tx na n I (O * I) i).2.1 (slabX ch tx na n I (O * I) i).2.2 true, AA rest x.1 x.2.1 x.2.2 true, .val (.int .i64 most)] (.pure (resA rest (rowsE c most (rowsL ch tx qs t n I (O * I)) i) l)) := by
 obtain ⟨x1, x2, x3, x4, x5⟩ := hx
 obtain ⟨g1, g2, g3⟩ := slab_kinds ch tx na qs na1 oa hQ rest hr n I O hR k1 k2 i
 have hel := slab_el ch tx na qs na1 n I O k1 k2 i (by omega)
 obtain ⟨hs1, hs2⟩ := rows_step c most ch tx qs t n I (O * I) i hi hz
 generalize slabX ch tx na n I (O * I) i = y at *
 obtain ⟨_, ty, ny⟩ := y
 obtain ⟨cb, tb, nb⟩ := x
 have hcn := (vS_pr hr).1
 have la := (kinds_len g1).1
 have lb := (kinds_len x2).1
 rw [hcn, hR] at la lb
 have la' : ty.length + ny.length = O * I := by
  have la : ((ty.length + ny.length : Nat) : Int) = ((O * I : Nat) : Int) := la
  omega
 have lb' : tb.length + nb.length = O * I := by
  have lb : ((tb.length + nb.length : Nat) : Int) = ((O * I : Nat) : Int) := lb
  omega
 have hT := PTwoN_ok c rest rest ch cb ty tb ny nb g2 x3 (ny.map valX) (nb.map valX) rfl rfl most (by omega) hr hr (by rw [List.length_map]; exact g1) (by rw [List.length_map]; exact x2) (by omega) (by omega) (by rw [List.length_map]; omega) (by rw [List.length_map]; omega) g3 x4
 have fit : fitS rest rest (ty.length + (ny.map valX).length) (tb.length + (nb.map valX).length) = (rest, false, false, 0) := if_pos rfl
 have hE : twoE c rest rest ch cb ty tb (ny.map valX) (nb.map valX) most = rowsE c most (rowsL ch tx qs t n I (O * I)) i := by
  unfold twoE
  rw [if_pos hc, fit, if_neg (fun h => h rfl), hs1]
  show firstE ((List.range (cntI rest).toNat).map _) = _
  rw [hcn, hR, Int.toNat_natCast]
  congr 1
  refine List.map_congr_left fun r hrr => ?_
  have hrr := List.mem_range.1 hrr
  rw [← x5 r hrr, ← hel r hrr]
  rfl
 have hV : twoV c rest rest ch cb ty tb (ny.map valX) (nb.map valX) most = (List.range (O * I)).map fun r => (pairE c most (elA ch tx qs ((r / I * n + i) * I + r % I)) (foldE c most ((lineE ch tx qs t n I r).drop (i + 1))).1).1 := by
  unfold twoV
  rw [fit]
  show (List.range (cntI rest).toNat).map _ = _
  rw [hcn, hR, Int.toNat_natCast]
  refine List.map_congr_left fun r hrr => ?_
  have hrr := List.mem_range.1 hrr
  rw [← x5 r hrr, ← hel r hrr]
  rfl
 obtain ⟨l, w1, w2, w3, w4⟩ := hT
 rw [fit, hE] at w4
 rw [hE, hV] at w1
 refine ⟨l, fun h0 => ?_, w4⟩
 have w1 := w1 h0
 have ll : l.length = O * I := by
  have := congrArg List.length w1
  rw [List.length_map, List.length_map, List.length_range] at this
  exact this
 have hs2 := hs2 h0
 refine ⟨?_, ?_, w2, ?_, fun r hrr => ?_⟩
 ·show false = _
  rw [decide_eq_false (by omega), Bool.and_false]
 ·show ((l.length : Nat) : Int) = cntI rest ∧ (0 = 0)
  rw [hcn, hR, ll]
  exact q2r
 ·intro q hq
  have hq : q ∈ l.map valX := hq
  rw [w1] at hq
  obtain ⟨r, hrr, rfl⟩ := List.mem_map.1 hq
  have hrr := List.mem_range.1 hrr
  refine hb i r hrr ?_
  have := hs1
  rw [h0] at this
  have h2 := fst0_zero ((firstE_fst0 _).symm.trans this.symm) _ (List.mem_map.2 ⟨_, List.mem_map.2 ⟨r, List.mem_range.2 hrr, rfl⟩, rfl⟩)
  exact h2
 ·rw [hs2 r hrr]
  show elA false [] (l.map valX) r = _
  rw [w1]
  have hg : ((List.range (O * I)).map fun r => (pairE c most (elA ch tx qs ((r / I * n + i) * I + r % I)) (foldE c most ((lineE ch tx qs t n I r).drop (i + 1))).1).1).getD r 0 = (pairE c most (elA ch tx qs ((r / I * n + i) * I + r % I)) (foldE c most ((lineE ch tx qs t n I r).drop (i + 1))).1).1 := by
   rw [List.getD_eq_getElem?_getD, List.getElem?_map, List.getElem?_range hrr]; rfl
  unfold elA numE at *
  rw [hg]
  rfl
theorem StF_chain (t : Nat) (h0 : 0 < t) (ht : t ≤ n) (hb : ∀ i r, r < O * I → (pairE c most (elA ch tx qs ((r / I * n + i) * I + r % I)) (foldE c most ((lineE ch tx qs t n I r).drop (i + 1))).1).2 = 0 → Sz (pairE c most (elA ch tx qs ((r / I * n + i) * I + r % I)) (foldE c most ((lineE ch tx qs t n I r).drop (i + 1))).1).1 20) : ∀ m, m < t → ∃ f : Nat → Bool × List Int × List (Option (Rat × Nat)), f (t - 1) = slabX ch tx na n I (O * I) (t - 1) ∧
  (∀ i, t - 1 - m ≤ i → i < t → (∀ j, i ≤ j → j < t → rowsE c most (rowsL ch tx qs t n I (O * I)) j = 0) → StF c most rest ch tx qs t n I (O * I) i (f i)) ∧
  (∀ i, t - 1 - m ≤ i → i + 1 < t → (∀ j, i < j → j < t → rowsE c most (rowsL ch tx qs t n I (O * I)) j = 0) → (f i).1 = false ∧ (f i).2.1 = [] ∧
   AC Tryz.prog 66 [.val (.int .i32 c), AA rest ch (slabX ch tx na n I (O * I) i).2.1 (slabX ch tx na n I (O * I) i).2.2 true, AA rest (f (i + 1)).1 (f (i + 1)).2.1 (f (i + 1)).2.2 true, .val (.int .i64 most)] (.pure (resA rest (rowsE c most (rowsL ch tx qs t n I (O * I)) i) (f i).2.2))) := by
 intro m
 induction m with
 | zero =>
  intro hmn
  refine ⟨fun _ => slabX ch tx na n I (O * I) (t - 1), rfl, fun i h1 h2 _ => ?_, fun i h1 h2 => absurd h2 (by omega)⟩
  have : i = t - 1 := by omega
  subst this
  exact StF_base c most ch tx na qs na1 oa hQ rest hr n I O hR k1 k2 t h0 ht
 | succ m ih =>
  intro hmn
  obtain ⟨f, f1, f2, f3⟩ := ih (by omega)
  obtain ⟨i0, hi0⟩ : ∃ i0, i0 = t - 1 - (m + 1) := ⟨_, rfl⟩
  by_cases hz : ∀ j, i0 < j → j < t → rowsE c most (rowsL ch tx qs t n I (O * I)) j = 0
  ·have hS := f2 (i0 + 1) (by omega) (by omega) (fun j h1 h2 => hz j (by omega) h2)
   obtain ⟨l, w1, w2⟩ := StF_step c most hc hm ch tx na qs na1 oa hQ rest hr n I O hR h5 k1 k2 t ht hb i0 (by omega) (f (i0 + 1)) hS (hz (i0 + 1) (by omega) (by omega))
   refine ⟨fun i => if i = i0 then (false, [], l) else f i, ?_, fun i h1 h2 h3 => ?_, fun i h1 h2 h3 => ?_⟩
   ·show (if t - 1 = i0 then _ else _) = _
    rw [if_neg (by omega)]; exact f1
   ·by_cases hii : i = i0
    ·subst hii
     show StF _ _ _ _ _ _ _ _ _ _ _ (if i = i then _ else _)
     rw [if_pos rfl]
     exact w1 (h3 i (Nat.le_refl _) h2)
    ·show StF _ _ _ _ _ _ _ _ _ _ _ (if i = i0 then _ else _)
     rw [if_neg hii]
     exact f2 i (by omega) h2 h3
   ·by_cases hii : i = i0
    ·subst hii
     show (if i = i then _ else _ : Bool × List Int × List (Option (Rat × Nat))).1 = false ∧ (if i = i then _ else _ : Bool × List Int × List (Option (Rat × Nat))).2.1 = [] ∧ AC Tryz.prog 66 [_, _, AA rest (if i + 1 = i then _ else _ : Bool × List Int × List (Option (Rat × Nat))).1 (if i + 1 = i then _ else _ : Bool × List Int × List (Option (Rat × Nat))).2.1 (if i + 1 = i then _ else _ : Bool × List Int × List (Option (Rat × Nat))).2.2 true, _] (.pure (resA rest _ (if i = i then _ else _ : Bool × List Int × List (Option (Rat × Nat))).2.2))
     rw [if_pos rfl, if_neg (by omega)]
     exact ⟨rfl, rfl, w2⟩
    ·show (if i = i0 then _ else _ : Bool × List Int × List (Option (Rat × Nat))).1 = false ∧ (if i = i0 then _ else _ : Bool × List Int × List (Option (Rat × Nat))).2.1 = [] ∧ AC Tryz.prog 66 [_, _, AA rest (if i + 1 = i0 then _ else _ : Bool × List Int × List (Option (Rat × Nat))).1 (if i + 1 = i0 then _ else _ : Bool × List Int × List (Option (Rat × Nat))).2.1 (if i + 1 = i0 then _ else _ : Bool × List Int × List (Option (Rat × Nat))).2.2 true, _] (.pure (resA rest _ (if i = i0 then _ else _ : Bool × List Int × List (Option (Rat × Nat))).2.2))
     rw [if_neg hii, if_neg (by omega)]
     exact f3 i (by omega) h2 h3
  ·refine ⟨f, f1, fun i h1 h2 h3 => ?_, fun i h1 h2 h3 => ?_⟩
   ·by_cases hii : i = i0
    ·exact absurd (fun j h4 h5 => h3 j (by omega) h5) hz
    ·exact f2 i (by omega) h2 h3
   ·by_cases hii : i = i0
    ·subst hii; exact absurd h3 hz
    ·exact f3 i (by omega) h2 h3
end
end
section
theorem AZf_noid (e : Int) : NoId (.tup [AZ, .val (.int .i64 e)]) := .tup _ (noid2 AZ_noid (.val _))
theorem kinds_axis {s : List Int} {k : Nat} {c : Bool} {a b : Nat} {n : Nat} (hv : vS s) (hp : pr s = pr (s.take k) * (n * pr (s.drop (k + 1)))) (h : kinds s c a b) :
  (c = true → b = 0 ∧ a = pr (s.take k) * (n * pr (s.drop (k + 1)))) ∧ (c = false → a = 0 ∧ b = pr (s.take k) * (n * pr (s.drop (k + 1)))) := by
 obtain ⟨h1, h2⟩ := kinds_c hv h
 rw [hp] at h1 h2
 exact ⟨fun h => ⟨(h1 h).2, (h1 h).1⟩, fun h => ⟨(h2 h).2, (h2 h).1⟩⟩
theorem run_any (c most : Int) (hc : isTwo c) (hm : most ≤ 200) (s : List Int) (k : Nat) (ch : Bool) (tx : List Int) (na : List (Option (Rat × Nat))) (qs : List Rat) (na1 : na.map valX = qs) (oa : ∀ o ∈ na, okX o) (hQ : ∀ q ∈ qs, Sz q 20)
  (hk : k < s.length) (hv : vS s) (ka : kinds s ch tx.length na.length) (n : Nat) (hn : s[k] = (n : Int)) (t : Nat) (h0 : 0 < t) (ht : t ≤ n) (hb : ∀ i r, r < pr (s.take k) * pr (s.drop (k + 1)) → (pairE c most (elA ch tx qs ((r / pr (s.drop (k + 1)) * n + i) * pr (s.drop (k + 1)) + r % pr (s.drop (k + 1)))) (foldE c most ((lineE ch tx qs t n (pr (s.drop (k + 1))) r).drop (i + 1))).1).2 = 0 → Sz (pairE c most (elA ch tx qs ((r / pr (s.drop (k + 1)) * n + i) * pr (s.drop (k + 1)) + r % pr (s.drop (k + 1)))) (foldE c most ((lineE ch tx qs t n (pr (s.drop (k + 1))) r).drop (i + 1))).1).1 20) (h5 : pr (s.take k) * pr (s.drop (k + 1)) ≤ 500) :
  ∃ x : Bool × List Int × List (Option (Rat × Nat)), (redE c most (rowsL ch tx qs t n (pr (s.drop (k + 1))) (pr (s.take k) * pr (s.drop (k + 1)))) t = 0 → StF c most (s.take k ++ s.drop (k + 1)) ch tx qs t n (pr (s.drop (k + 1))) (pr (s.take k) * pr (s.drop (k + 1))) 0 x) ∧
   AC Tryz.prog 38 [.val (.int .i32 c), AA s ch tx na true, .val (.int .i64 (k : Int)), .val (.int .i64 ((t - 1 : Nat) : Int)), .val (.int .i64 most)]
    (.pure (resF (s.take k ++ s.drop (k + 1)) x.1 x.2.1 x.2.2 (redE c most (rowsL ch tx qs t n (pr (s.drop (k + 1))) (pr (s.take k) * pr (s.drop (k + 1)))) t))) := by
 obtain ⟨n', hn', _, hr, hp, hpr, p4, r4, vu, vv⟩ := axis_split hk hv
 have : n' = n := by rw [hn] at hn'; omega
 subst this
 have ln : n' ≤ 4096 := by have := vS_dim hv (List.getElem_mem hk); omega
 obtain ⟨k1, k2⟩ := kinds_axis hv hp ka
 have hSl := fun i hi => slab_ok s k ch tx na hk hv ka n' hn i hi
 obtain ⟨O, hO⟩ : ∃ O, O = pr (s.take k) := ⟨_, rfl⟩
 obtain ⟨I, hI⟩ : ∃ I, I = pr (s.drop (k + 1)) := ⟨_, rfl⟩
 rw [← hO, ← hI] at hp hpr r4 h5 k1 k2 hSl ⊢
 rw [← hI, ← hO] at hb
 obtain ⟨rest, hrest⟩ : ∃ rest, rest = s.take k ++ s.drop (k + 1) := ⟨_, rfl⟩
 rw [← hrest] at hr hpr hSl ⊢
 have k1 : ch = true → na = [] ∧ tx.length = O * (n' * I) := fun h => ⟨List.length_eq_zero_iff.1 (k1 h).1, (k1 h).2⟩
 have k2 : ch = false → tx = [] ∧ na.length = O * (n' * I) := fun h => ⟨List.length_eq_zero_iff.1 (k2 h).1, (k2 h).2⟩
 obtain ⟨f, f1, f2, f3⟩ := StF_chain c most hc hm ch tx na qs na1 oa hQ rest hr n' I O hpr h5 k1 k2 t h0 ht hb (t - 1) (by omega)
 have hSl : ∀ i, i < n' → AC Tryz.prog 90 [AA s ch tx na true, .val (.int .i64 (k : Int)), .val (.int .i64 (i : Int))] (.pure (AA rest (slabX ch tx na n' I (O * I) i).1 (slabX ch tx na n' I (O * I) i).2.1 (slabX ch tx na n' I (O * I) i).2.2 true)) := hSl
 refine ⟨f 0, fun hz => f2 0 (by omega) h0 (fun j _ hj => ?_), ?_⟩
 ·by_cases hjn : j + 1 < t
  ·refine fst0_zero hz _ (List.mem_map.2 ⟨j, List.mem_reverse.2 (List.mem_range.2 (by omega)), rfl⟩)
  ·have : j = t - 1 := by omega
   subst this
   exact rows_last c most ch tx qs t n' I (O * I) h0
 obtain ⟨E, hE⟩ : ∃ E, E = redE c most (rowsL ch tx qs t n' I (O * I)) t := ⟨_, rfl⟩
 rw [← hE]
 obtain ⟨r', hle, hno, e1, e2⟩ : ∃ r', AVle r' (resF rest (f 0).1 (f 0).2.1 (f 0).2.2 E) ∧ NoId r' ∧ (E = 0 → r' = .tup [AA rest (f 0).1 (f 0).2.1 (f 0).2.2 true, .val (.int .i64 0)]) ∧ (E ≠ 0 → r' = .tup [AZ, .val (.int .i64 E)]) := by
  unfold resF
  by_cases h : E = 0
  ·rw [if_pos h]
   exact ⟨_, .refl _, .tup _ (noid2 (AA_noid _ _ _ _ _) (.val _)), fun _ => rfl, fun h' => absurd h h'⟩
  ·rw [if_neg h]
   exact ⟨_, .tup2 AZ_le (.refl _), AZf_noid _, fun h' => absurd h' h, fun _ => rfl⟩
 refine AC.le_res (?_ : AC Tryz.prog 38 _ (.pure r')) hle (resF_noid _ _ _ _ _)
 have hlast := hSl (t - 1) (by omega)
 rw [← f1] at hlast
 refine AC.of_body TTok Tryz.func38 rfl (enter_of Tryz.func38 (by kernel_rfl) (by kernel_rfl)) (noid5 (.val _) (AA_noid _ _ _ _ _) (.val _) (.val _) (.val _)) hno (nbq rfl) ?_
 unfold AA AZ at *
 conv => whnf
 refine ⟨_, hlast, ?_⟩
 conv => whnf
 refine SW.loopM TTok (fun x : Nat => [(0, .val (.int .i32 c)), (2, .val (.int .i64 (k : Int))), (4, .val (.int .i64 most)), (6, .lp 0 0), (10, .lp 8 0), (11, .val (.int .i64 0)), (12, .lp 56 0), (13, .val (.int .i64 ((x : Int) - 1)))])
  (fun x => [(0, .cells 5 [[.sl 1 (irows .i64 s) false, .val (.bool ch), .sl 1 (irows .i32 tx) false, .sl 3 (na.map rowX) false, .val (.bool true)]]), (8, .cells 5 [[.sl 0 [] true, .val (.bool false), .sl 0 [] true, .sl 0 [] true, .val (.bool false)]]), (56, .cells 5 [[.sl 1 (irows .i64 rest) false, .val (.bool (f x).1), .sl 1 (irows .i32 (f x).2.1) false, .sl 3 ((f x).2.2.map rowX) false, .val (.bool true)]])]) 96 43 rfl (fun x => x) (fun x => x ≤ t - 1 ∧ ∀ j, x ≤ j → j < t → rowsE c most (rowsL ch tx qs t n' I (O * I)) j = 0) (t - 1) [] ⟨Nat.le_refl _, fun j h1 h2 => by
   have : j = t - 1 := by omega
   subst this
   exact rows_last c most ch tx qs t n' I (O * I) h0⟩
  ⟨q2r, q2r, q2r, q2r, q2r, q2r, q2r, ⟨valI (IntWalk.i64_in _ (by omega)), rfl⟩, trivial⟩ ⟨q3r, q3r, q3r, trivial⟩ rfl ?_
 intro x hJ
 have hx : x ≤ t - 1 := hJ.1
 have hz : ∀ j, x ≤ j → j < t → rowsE c most (rowsL ch tx qs t n' I (O * I)) j = 0 := hJ.2
 clear hJ
 cases x with
 | zero =>
  have hE0 : E = 0 := by
   rw [hE]; exact redE_zero _ _ _ _ (fun j hj => hz j (Nat.zero_le _) (by omega))
  rw [e1 hE0]
  repeat ((conv => whnf); (first | refine ⟨_, ‹_›, ?_⟩ | refine ⟨nbq rfl, _, ‹_›, ?_⟩ | refine ⟨by kernel_rfl, ?_⟩ | exact rfl | exact ⟨nbq rfl, rfl⟩ | refine ⟨by decide, ?_⟩))
 | succ i =>
  have eI : ((i + 1 : Nat) : Int) - 1 = (i : Int) := by omega
  have hS := hSl i (by omega)
  obtain ⟨g1, g2, g3⟩ := f3 i (by omega) (by omega) (fun j h1 h2 => hz j (by omega) h2)
  rw [← eI] at hS
  have eJ : IntKind.i64.wrap (((i + 1 : Nat) : Int) - 1 - 1) = (i : Int) - 1 := by rw [IntWalk.i64_in _ (by omega)]; omega
  have hS : AC Tryz.prog 90 [AA s ch tx na true, .val (.int .i64 (k : Int)), .val (.int .i64 (((i + 1 : Nat) : Int) - 1))] (.pure (AA rest ch (slabX ch tx na n' I (O * I) i).2.1 (slabX ch tx na n' I (O * I) i).2.2 true)) := hS
  generalize slabX ch tx na n' I (O * I) i = y at hS g3
  obtain ⟨_, ty, ny⟩ := y
  have hS : AC Tryz.prog 90 [AA s ch tx na true, .val (.int .i64 (k : Int)), .val (.int .i64 (((i + 1 : Nat) : Int) - 1))] (.pure (AA rest ch ty ny true)) := hS
  have g3 : AC Tryz.prog 66 [.val (.int .i32 c), AA rest ch ty ny true, AA rest (f (i + 1)).1 (f (i + 1)).2.1 (f (i + 1)).2.2 true, .val (.int .i64 most)] (.pure (resA rest (rowsE c most (rowsL ch tx qs t n' I (O * I)) i) (f i).2.2)) := g3
  unfold AA at hS
  unfold resA AA at g3
  by_cases he : rowsE c most (rowsL ch tx qs t n' I (O * I)) i = 0
  ·rw [if_pos he] at g3
   conv => whnf
   first | refine oTq (by omega) ?_ | refine oFq (by omega) ?_ | refine oEq (by omega) ?_ | refine oNq (by omega) ?_
   conv => whnf
   refine ⟨_, hS, ?_⟩
   conv => whnf
   refine ⟨_, g3, ?_⟩
   conv => whnf
   refine ⟨by kernel_rfl, ?_⟩
   conv => whnf
   refine ⟨i, [], Nat.lt_succ_self _, ⟨by omega, fun j h1 h2 => ?_⟩, ⟨q2r, q2r, q2r, q2r, q2r, q2r, q2r, ⟨valI eJ, rfl⟩, trivial⟩, ⟨q3r, q3r, ⟨rfl, .inr ⟨celE ?_, rfl⟩⟩, trivial⟩, rfl⟩
   ·by_cases hji : j = i
    ·rw [hji]; exact he
    ·exact hz j (by omega) h2
   ·rw [g1, g2]; rfl
  ·rw [if_neg he] at g3
   have hE1 : E = rowsE c most (rowsL ch tx qs t n' I (O * I)) i := by
    rw [hE]; exact redE_from _ _ _ _ _ (by omega) (fun j h1 h2 => hz j (by omega) h2) he
   rw [e2 (by rw [hE1]; exact he), hE1]
   generalize rowsE c most (rowsL ch tx qs t n' I (O * I)) i = e at *
   conv => whnf
   first | refine oTq (by omega) ?_ | refine oFq (by omega) ?_ | refine oEq (by omega) ?_ | refine oNq (by omega) ?_
   conv => whnf
   refine ⟨_, hS, ?_⟩
   conv => whnf
   refine ⟨_, g3, ?_⟩
   conv => whnf
   refine ⟨by kernel_rfl, ?_⟩
   conv => whnf
   first | refine nTq (by omega) ?_ | refine nFq (by omega) ?_
   repeat ((conv => whnf); (first | refine ⟨_, ‹_›, ?_⟩ | refine ⟨nbq rfl, _, ‹_›, ?_⟩ | refine ⟨by kernel_rfl, ?_⟩ | exact rfl | exact ⟨nbq rfl, rfl⟩ | refine ⟨by decide, ?_⟩))
end
section
section
variable (s : List Int) (ch : Bool) (tx : List Int) (na : List (Option (Rat × Nat))) (axis : Int)
def isAx (len : Nat) (axis : Int) (k : Nat) : Prop := k < len ∧ (axis = (k : Int) ∨ axis < 0 ∧ k + 1 = len)
theorem Axis_ok (k : Nat) (h : isAx s.length axis k) (h8 : s.length ≤ 1000) : AC Tryz.prog 37 [AA s ch tx na true, .val (.int .i64 axis)] (.pure (.tup [.val (.int .i64 (k : Int)), .val (.bool true)])) := by
 obtain ⟨hk, h⟩ := h
 have hR := Rank_ok s ch tx na (by omega)
 refine AC.of_body TTok Tryz.func37 rfl (enter_of Tryz.func37 (by kernel_rfl) (by kernel_rfl)) (noid2 (AA_noid _ _ _ _ _) (.val _)) (.tup _ (noid2 (.val _) (.val _))) (nbq rfl) ?_
 unfold AA at *
 by_cases h0 : axis < 0
 ·have e : IntKind.i64.wrap ((s.length : Int) - 1) = (k : Int) := by rw [IntWalk.i64_in _ (by omega)]; omega
  rw [← e]
  have t1 : decide (IntKind.i64.wrap ((s.length : Int) - 1) ≥ 0) = true := decide_eq_true (by rw [e]; omega)
  have t2 : decide (IntKind.i64.wrap ((s.length : Int) - 1) < ((s.length : Nat) : Int)) = true := decide_eq_true (by rw [e]; omega)
  conv => whnf
  first | refine oTq (by omega) ?_ | refine oFq (by omega) ?_ | refine oEq (by omega) ?_ | refine oNq (by omega) ?_
  conv => whnf
  refine ⟨_, hR, ?_⟩
  conv => whnf
  refine cTq (t1) ?_
  conv => whnf
  refine ⟨_, hR, ?_⟩
  conv => whnf
  rw [t2]
  rfl
 ·have e : axis = (k : Int) := by omega
  subst e
  have t2 : decide ((k : Int) < ((s.length : Nat) : Int)) = true := decide_eq_true (by omega)
  conv => whnf
  refine ⟨_, hR, ?_⟩
  conv => whnf
  rw [t2]
  rfl
end
theorem rep_set (n i : Nat) (x : List AV) : (List.replicate n x).set i x = List.replicate n x := by
 refine List.ext_getElem? fun j => ?_
 rw [List.getElem?_set]
 by_cases h : i = j
 ·rw [if_pos h, List.length_replicate]
  subst h
  by_cases h2 : i < n
  ·rw [if_pos h2, List.getElem?_replicate, if_pos h2]
  ·rw [if_neg h2, List.getElem?_replicate, if_neg h2]
 ·rw [if_neg h]
theorem irows_rep (n : Nat) : irows .i64 (List.replicate n 0) = List.replicate n [.val (.int .i64 0)] := by unfold irows; rw [List.map_replicate]
end
section
section
variable (c : Int) (s : List Int) (ch : Bool) (tx : List Int) (na : List (Option (Rat × Nat))) (axis most : Int)
theorem red_nd : ∀ x ∈ [AV.val (.int .i32 c), AA s ch tx na true, .val (.int .i64 axis), .val (.int .i64 most)], NoId x := noidF (.val _) (AA_noid _ _ _ _ _) (.val _) (.val _)
theorem Red_err {P : Program} {f : FuncId} {args : List AV} {e : Int} (h : AC P f args (.pure (.tup [AZ, .val (.int .i64 e)]))) : AC P f args (.pure (.tup [AA [] false [] [] false, .val (.int .i64 e)])) :=
 AC.le_res h (.tup2 AZ_le (.refl _)) (.tup _ (noid2 (AA_noid _ _ _ _ _) (.val _)))
theorem Red_run (h : isTwo c) (k : Nat) (hx : isAx s.length axis k) (hs : s.length ≤ 8) (n : Nat) (hn : s[k]'hx.1 = (n : Int)) (h0 : 0 < n) (hn4 : n ≤ 5000) (sh : List Int) (c' : Bool) (tx' : List Int) (na' : List (Option (Rat × Nat))) (E : Int)
  (hRun : AC Tryz.prog 38 [.val (.int .i32 c), AA s ch tx na true, .val (.int .i64 (k : Int)), .val (.int .i64 ((n - 1 : Nat) : Int)), .val (.int .i64 most)] (.pure (resF sh c' tx' na' E))) :
  AC Tryz.prog 12 [.val (.int .i32 c), AA s ch tx na true, .val (.int .i64 axis), .val (.int .i64 most)] (.pure (resF sh c' tx' na' E)) := by
 have hk := hx.1
 have hH := Has_ok c
 rw [decide_eq_true h] at hH
 have hR := Rank_ok s ch tx na (by omega)
 have hS := Shape_ok s ch tx na (by omega)
 have hA := Axis_ok s ch tx na axis k hx (by omega)
 have lr := irows_len .i64 s
 have hg : (irows .i64 s)[k]? = some [.val (.int .i64 (n : Int))] := by rw [← hn]; exact irows_get .i64 s (List.getElem?_eq_getElem hk)
 have e : IntKind.i64.wrap ((n : Int) - 1) = ((n - 1 : Nat) : Int) := by rw [IntWalk.i64_in _ (by omega)]; omega
 rw [← e] at hRun
 refine AC.of_body TTok Tryz.func12 rfl (enter_of Tryz.func12 (by kernel_rfl) (by kernel_rfl)) (red_nd c s ch tx na axis most) (resF_noid _ _ _ _ _) (nbq rfl) ?_
 unfold resF at *
 by_cases hE : E = 0
 ·rw [if_pos hE] at hRun ⊢
  unfold AA at *
  conv => whnf
  refine ⟨_, hH, ?_⟩
  conv => whnf
  refine ⟨_, hR, ?_⟩
  conv => whnf
  first | refine oTq (by omega) ?_ | refine oFq (by omega) ?_ | refine oEq (by omega) ?_ | refine oNq (by omega) ?_
  conv => whnf
  refine ⟨_, hA, ?_⟩
  conv => whnf
  refine ⟨_, hS, ?_⟩
  conv => whnf
  refine ⟨_, ⟨by omega, by rw [Int.toNat_natCast]; exact hg⟩, ?_⟩
  conv => whnf
  first | refine oTq (by omega) ?_ | refine oFq (by omega) ?_ | refine oEq (by omega) ?_ | refine oNq (by omega) ?_
  conv => whnf
  refine ⟨_, hRun, ?_⟩
  repeat ((conv => whnf); (first | refine ⟨_, ‹_›, ?_⟩ | refine ⟨nbq rfl, _, ‹_›, ?_⟩ | refine ⟨by kernel_rfl, ?_⟩ | exact rfl | exact ⟨nbq rfl, rfl⟩ | refine ⟨by decide, ?_⟩))
 ·rw [if_neg hE] at hRun ⊢
  unfold AA at *
  conv => whnf
  refine ⟨_, hH, ?_⟩
  conv => whnf
  refine ⟨_, hR, ?_⟩
  conv => whnf
  first | refine oTq (by omega) ?_ | refine oFq (by omega) ?_ | refine oEq (by omega) ?_ | refine oNq (by omega) ?_
  conv => whnf
  refine ⟨_, hA, ?_⟩
  conv => whnf
  refine ⟨_, hS, ?_⟩
  conv => whnf
  refine ⟨_, ⟨by omega, by rw [Int.toNat_natCast]; exact hg⟩, ?_⟩
  conv => whnf
  first | refine oTq (by omega) ?_ | refine oFq (by omega) ?_ | refine oEq (by omega) ?_ | refine oNq (by omega) ?_
  conv => whnf
  refine ⟨_, hRun, ?_⟩
  repeat ((conv => whnf); (first | refine ⟨_, ‹_›, ?_⟩ | refine ⟨nbq rfl, _, ‹_›, ?_⟩ | refine ⟨by kernel_rfl, ?_⟩ | exact rfl | exact ⟨nbq rfl, rfl⟩ | refine ⟨by decide, ?_⟩))
end
end
section
def prow (x : Option (Rat × Nat)) : List AV := [.sl 1 (irows .i64 []) false, .val (.bool false), .sl 1 (irows .i32 []) false, .sl 3 ([x].map rowX) false, .val (.bool true)]
def zrow : List AV := [.sl 0 [] true, .val (.bool false), .sl 0 [] true, .sl 0 [] true, .val (.bool false)]
end
section
theorem foldE_tail (c most : Int) (x : El) (l : List El) (h : (foldE c most (x :: l)).2 = 0) : (foldE c most l).2 = 0 := by
 cases l with
 | nil => rfl
 | cons y l =>
  rw [foldE_cons _ _ _ (List.cons_ne_nil _ _)] at h
  by_cases h2 : (foldE c most (y :: l)).2 ≠ 0
  ·rw [if_pos h2] at h; exact absurd h h2
  ·exact Decidable.byContradiction h2
theorem foldE_drop (c most : Int) : ∀ (i : Nat) (l : List El), (foldE c most l).2 = 0 → (foldE c most (l.drop i)).2 = 0
 | 0, l, h => h
 | i + 1, [], h => h
 | i + 1, x :: l, h => foldE_drop c most i l (foldE_tail c most x l h)
theorem line_list (qs : List Rat) (t n : Nat) (ht : t ≤ qs.length) : lineE false [] qs t n 1 0 = (qs.take t).map numE := by
 refine List.ext_getElem? fun i => ?_
 unfold lineE
 rw [List.getElem?_map, List.getElem?_map, List.getElem?_take]
 by_cases hi : i < t
 ·rw [if_pos hi, List.getElem?_range hi, List.getElem?_eq_getElem (by omega)]
  show some (elA false [] qs ((0 / 1 * n + i) * 1 + 0 % 1)) = some (numE qs[i])
  have e : (0 / 1 * n + i) * 1 + 0 % 1 = i := by simp
  rw [e]
  unfold elA numE
  rw [List.getD_eq_getElem?_getD, List.getD_eq_getElem?_getD, List.getElem?_eq_getElem (show i < qs.length by omega)]
  rfl
 ·rw [if_neg hi, List.getElem?_eq_none (by rw [List.length_range]; omega)]; rfl
section
variable (c most : Int) (hc : isTwo c) (hm : most ≤ 200) (na : List (Option (Rat × Nat))) (qs : List Rat) (na1 : na.map valX = qs) (oa : ∀ o ∈ na, okX o) (hQ : ∀ q ∈ qs, Sz q 20)
include hc hm na1 oa hQ
theorem run_list (h4 : qs.length ≤ 500) (t : Nat) (h0 : 0 < t) (ht : t ≤ qs.length) (hz : (foldE c most ((qs.take t).map numE)).2 = 0)
  (hb : ∀ i, (pairE c most (elA false [] qs i) (foldE c most (((qs.take t).map numE).drop (i + 1))).1).2 = 0 → Sz (pairE c most (elA false [] qs i) (foldE c most (((qs.take t).map numE).drop (i + 1))).1).1 20) :
  ∃ o, okX o ∧ numE (valX o) = (foldE c most ((qs.take t).map numE)).1 ∧
   AC Tryz.prog 38 [.val (.int .i32 c), AA [(qs.length : Int)] false [] na true, .val (.int .i64 0), .val (.int .i64 ((t - 1 : Nat) : Int)), .val (.int .i64 most)] (.pure (.tup [AA [] false [] [o] true, .val (.int .i64 0)])) := by
 have la : na.length = qs.length := by rw [← na1, List.length_map]
 obtain ⟨v1, c1⟩ := vS_single qs.length (by omega)
 have hk : kinds [(qs.length : Int)] false ([] : List Int).length na.length := by
  show ((na.length : Nat) : Int) = cntI [(qs.length : Int)] ∧ (0 = 0)
  rw [c1, la]; exact q2r
 have hl := line_list qs t qs.length ht
 obtain ⟨x, hx1, hx2⟩ := run_any c most hc hm [(qs.length : Int)] 0 false [] na qs na1 oa hQ (by show 0 < 1; omega) v1 hk qs.length rfl t h0 ht
  (fun i r hr h => by
   have hr0 : r = 0 := by
    have hr : r < 1 * 1 := hr
    omega
   subst hr0
   have e : (0 / 1 * qs.length + i) * 1 + 0 % 1 = i := by simp
   have h : (pairE c most (elA false [] qs ((0 / 1 * qs.length + i) * 1 + 0 % 1)) (foldE c most ((lineE false [] qs t qs.length 1 0).drop (i + 1))).1).2 = 0 := h
   show Sz (pairE c most (elA false [] qs ((0 / 1 * qs.length + i) * 1 + 0 % 1)) (foldE c most ((lineE false [] qs t qs.length 1 0).drop (i + 1))).1).1 20
   rw [e, hl] at h ⊢
   exact hb i h) (by show 1 * 1 ≤ 500; omega)
 have hE : redE c most (rowsL false [] qs t qs.length (pr ([] : List Int)) (pr ([] : List Int) * pr ([] : List Int))) t = 0 := by
  refine redE_zero _ _ _ _ (fun j hj => ?_)
  refine fst0_of fun e he => ?_
  obtain ⟨l, hl2, rfl⟩ := List.mem_map.1 he
  obtain ⟨r, hr, rfl⟩ := List.mem_map.1 hl2
  have hr0 : r = 0 := by
   have : r < 1 * 1 := List.mem_range.1 hr
   omega
  subst hr0
  show (foldE c most ((lineE false [] qs t qs.length 1 0).drop j)).2 = 0
  rw [hl]
  exact foldE_drop c most j _ hz
 have hx1 := hx1 hE
 have hx2 : AC Tryz.prog 38 [.val (.int .i32 c), AA [(qs.length : Int)] false [] na true, .val (.int .i64 0), .val (.int .i64 ((t - 1 : Nat) : Int)), .val (.int .i64 most)] (.pure (resF [] x.1 x.2.1 x.2.2 (redE c most (rowsL false [] qs t qs.length (pr ([] : List Int)) (pr ([] : List Int) * pr ([] : List Int))) t))) := hx2
 obtain ⟨y1, y2, y3, _, y5⟩ := hx1
 obtain ⟨xc, xt, xn⟩ := x
 have y1 : xc = false := y1
 subst y1
 have y2 : ((xn.length : Nat) : Int) = cntI [] ∧ xt.length = 0 := y2
 have xt0 : xt = [] := List.length_eq_zero_iff.1 y2.2
 subst xt0
 have xl : xn.length = 1 := by have := y2.1; rw [show cntI [] = 1 from rfl] at this; omega
 obtain ⟨o, rfl⟩ := List.length_eq_one_iff.1 xl
 rw [hE] at hx2
 refine ⟨o, y3 o (List.mem_singleton.2 rfl), ?_, hx2⟩
 have y5 := y5 0 (by show 0 < 1 * 1; omega)
 have y5 : elA false [] [valX o] 0 = (foldE c most ((lineE false [] qs t qs.length 1 0).drop 0)).1 := y5
 rw [hl] at y5
 exact y5
theorem Red_list (axis : Int) (hax : axis < 0) (h4 : qs.length ≤ 500) (h0 : 0 < qs.length) (hz : (foldE c most (qs.map numE)).2 = 0)
  (hb : ∀ i, (pairE c most (elA false [] qs i) (foldE c most ((qs.map numE).drop (i + 1))).1).2 = 0 → Sz (pairE c most (elA false [] qs i) (foldE c most ((qs.map numE).drop (i + 1))).1).1 20) :
  ∃ o, okX o ∧ numE (valX o) = (foldE c most (qs.map numE)).1 ∧
   AC Tryz.prog 12 [.val (.int .i32 c), AA [(qs.length : Int)] false [] na true, .val (.int .i64 axis), .val (.int .i64 most)] (.pure (.tup [AA [] false [] [o] true, .val (.int .i64 0)])) := by
 have ht : qs.take qs.length = qs := List.take_length
 obtain ⟨o, o1, o2, o3⟩ := run_list c most hc hm na qs na1 oa hQ h4 qs.length h0 (Nat.le_refl _) (by rw [ht]; exact hz) (by rw [ht]; exact hb)
 rw [ht] at o2
 exact ⟨o, o1, o2, Red_run c [(qs.length : Int)] false [] na axis most hc 0 ⟨by show 0 < 1; omega, .inr ⟨hax, rfl⟩⟩ (by show 1 ≤ 8; omega) qs.length rfl h0 (by omega) [] false [] [o] 0 o3⟩
end
end
section
def zlU : List Int := [43, 45, 124, 60, 62, 8800, 8744]
def olU : List Int := [215, 247, 42, 33, 8804, 61, 8805, 8743]
theorem RIntP_ok (n : Int) (hn : -9223372036854775808 ≤ n ∧ n < 9223372036854775808) : AC Tryz.prog 33 [.val (.int .i64 n)] (.pure (PA [] false [] [(n : Rat)])) := by
 have hF := SFrom_ok n hn
 have hN : AC Tryz.prog 85 [RN n 1] (.pure (PA [] false [] [(n : Rat)])) := by
  refine AC.le_res (?_ : AC Tryz.prog 85 _ (.pure (.agg [.sl 0 [] true, .val (.bool false), .sl 0 [] true, .sl 3 ([(n : Rat)].map rowN) false]))) (le_agg4 (le_nil 1) (.refl _) (le_nil 1) (.refl _)) (PA_noid _ _ _ _)
  refine AC.of_body TTok Tryz.func85 rfl (enter_of Tryz.func85 (by kernel_rfl) (by kernel_rfl)) (noid1 (RN_noid _ _)) (.agg _ (noidF (.sl _ _ _ (fun r hr => nomatch hr)) (.val _) (.sl _ _ _ (fun r hr => nomatch hr)) (slN_noid _))) (nbq rfl) ?_
  show axp _ _ _ _ _
  rw [show [(n : Rat)].map rowN = [[.val (.bool (decide (n < 0))), .val (.string (decS n.natAbs)), .val (.string (decS 1))]] by rw [List.map_cons, intN_row]; rfl]
  unfold RN
  conv => whnf
  exact ⟨Nat.le_refl _, rfl⟩
 refine AC.of_body TTok Tryz.func33 rfl (enter_of Tryz.func33 (by kernel_rfl) (by kernel_rfl)) (noid1 (.val _)) (PA_noid _ _ _ _) (nbq rfl) ?_
 unfold RN PA at *
 repeat ((conv => whnf); (first | refine ⟨_, ‹_›, ?_⟩ | refine ⟨nbq rfl, _, ‹_›, ?_⟩ | refine ⟨by kernel_rfl, ?_⟩ | exact rfl | exact ⟨nbq rfl, rfl⟩ | refine ⟨by decide, ?_⟩))
theorem sz_natI (n : Nat) (h : n < 4294967296) : Sz ((n : Int) : Rat) 20 := (sz_nat n h).mono (by decide)
theorem numE_inj {a b : Rat} (h : numE a = numE b) : a = b := congrArg (fun x : El => x.2.2) h
end
section
def pickT (ch : Bool) (tx : List Int) (L : List Int) : List Int := if ch then L.map (getT tx) else []
def pickX (ch : Bool) (na : List (Option (Rat × Nat))) (L : List Int) : List (Option (Rat × Nat)) := if ch then [] else L.map (getX na)
theorem spread_ok (sh : List Int) (ch : Bool) (tx : List Int) (na : List (Option (Rat × Nat))) (L : List Int) (hL : L.length ≤ 4096) (h1 : tx.length ≤ 5000) (h2 : na.length ≤ 5000) :
  AC Tryz.prog 67 [AA sh ch tx na true, .sl 1 (irows .i64 L) false] (.pure (AA [(L.length : Int)] ch (pickT ch tx L) (pickX ch na L) true)) := by
 obtain ⟨v1, c1⟩ := vS_single L.length hL
 have lL := irows_len .i64 L
 have hP : AC Tryz.prog 108 [AA sh ch tx na true, .sl 1 (irows .i64 [(L.length : Int)]) false, .sl 1 (irows .i64 L) false] (.pure (.tup [AA [(L.length : Int)] ch (pickT ch tx L) (pickX ch na L) true, .val (.bool true)])) := by
  cases ch
  ·exact PickN_ok sh tx na [(L.length : Int)] L v1 c1 (by omega)
  ·exact PickT_ok sh tx na [(L.length : Int)] L v1 c1 (by omega)
 generalize pickT ch tx L = T at *
 generalize pickX ch na L = X at *
 refine AC.of_body TTok Tryz.func67 rfl (enter_of Tryz.func67 (by kernel_rfl) (by kernel_rfl)) (noid2 (AA_noid _ _ _ _ _) (noid_sl _ _ _)) (AA_noid _ _ _ _ _) (nbq rfl) ?_
 have e : irows .i64 [(L.length : Int)] = [[.val (.int .i64 ((irows .i64 L).length : Nat))]] := by rw [lL]; rfl
 rw [e] at hP
 unfold AA at *
 conv => whnf
 refine ⟨(nbq rfl), _, hP, ?_⟩
 repeat ((conv => whnf); (first | refine ⟨_, ‹_›, ?_⟩ | refine ⟨nbq rfl, _, ‹_›, ?_⟩ | refine ⟨by kernel_rfl, ?_⟩ | exact rfl | exact ⟨nbq rfl, rfl⟩ | refine ⟨by decide, ?_⟩))
def roomE (s : List Int) : Int := if 8 < s.length then 23 else if vS s then 0 else 26
theorem room_ok (s : List Int) (h : s.length ≤ 1000) : AC Tryz.prog 65 [.sl 1 (irows .i64 s) false] (.pure (.tup [.val (.int .i64 (if roomE s = 0 then cntI s else 0)), .val (.int .i64 (roomE s))])) := by
 have hC := Count_ok s (by omega)
 have ls := irows_len .i64 s
 refine AC.of_body TTok Tryz.func65 rfl (enter_of Tryz.func65 (by kernel_rfl) (by kernel_rfl)) (noid1 (noid_sl _ _ _)) (.tup _ (noid2 (.val _) (.val _))) (nbq rfl) ?_
 unfold roomE
 by_cases h8 : 8 < s.length
 ·rw [if_pos h8, if_neg (by decide)]
  rw [CNT_bad (fun hv => absurd hv.1 (by omega))] at hC
  conv => whnf
  refine ⟨_, hC, ?_⟩
  conv => whnf
  first | refine oTq (by omega) ?_ | refine oFq (by omega) ?_ | refine oEq (by omega) ?_ | refine oNq (by omega) ?_
  repeat ((conv => whnf); (first | refine ⟨_, ‹_›, ?_⟩ | refine ⟨nbq rfl, _, ‹_›, ?_⟩ | refine ⟨by kernel_rfl, ?_⟩ | exact rfl | exact ⟨nbq rfl, rfl⟩ | refine ⟨by decide, ?_⟩))
 ·rw [if_neg h8]
  by_cases hv : vS s
  ·rw [if_pos hv, if_pos rfl]
   rw [CNT_good hv] at hC
   conv => whnf
   refine ⟨_, hC, ?_⟩
   conv => whnf
   first | refine oTq (by omega) ?_ | refine oFq (by omega) ?_ | refine oEq (by omega) ?_ | refine oNq (by omega) ?_
   repeat ((conv => whnf); (first | refine ⟨_, ‹_›, ?_⟩ | refine ⟨nbq rfl, _, ‹_›, ?_⟩ | refine ⟨by kernel_rfl, ?_⟩ | exact rfl | exact ⟨nbq rfl, rfl⟩ | refine ⟨by decide, ?_⟩))
  ·rw [if_neg hv, if_neg (by decide)]
   rw [CNT_bad hv] at hC
   conv => whnf
   refine ⟨_, hC, ?_⟩
   conv => whnf
   first | refine oTq (by omega) ?_ | refine oFq (by omega) ?_ | refine oEq (by omega) ?_ | refine oNq (by omega) ?_
   repeat ((conv => whnf); (first | refine ⟨_, ‹_›, ?_⟩ | refine ⟨nbq rfl, _, ‹_›, ?_⟩ | refine ⟨by kernel_rfl, ?_⟩ | exact rfl | exact ⟨nbq rfl, rfl⟩ | refine ⟨by decide, ?_⟩))
theorem roomR_ok (s : List Int) (h : s.length ≤ 1000) : AC Tryz.prog 77 [.sl 1 (irows .i64 s) false] (.pure (.val (.int .i64 (roomE s)))) := by
 have hC := RCount_ok s (by omega)
 have ls := irows_len .i64 s
 refine AC.of_body TTok Tryz.func77 rfl (enter_of Tryz.func77 (by kernel_rfl) (by kernel_rfl)) (noid1 (noid_sl _ _ _)) (.val _) (nbq rfl) ?_
 unfold roomE
 by_cases h8 : 8 < s.length
 ·rw [if_pos h8]
  conv => whnf
  first | refine oTq (by omega) ?_ | refine oFq (by omega) ?_ | refine oEq (by omega) ?_ | refine oNq (by omega) ?_
  repeat ((conv => whnf); (first | refine ⟨_, ‹_›, ?_⟩ | refine ⟨nbq rfl, _, ‹_›, ?_⟩ | refine ⟨by kernel_rfl, ?_⟩ | exact rfl | exact ⟨nbq rfl, rfl⟩ | refine ⟨by decide, ?_⟩))
 ·rw [if_neg h8]
  by_cases hv : vS s
  ·rw [if_pos hv]
   rw [CNT_good hv] at hC
   conv => whnf
   first | refine oTq (by omega) ?_ | refine oFq (by omega) ?_ | refine oEq (by omega) ?_ | refine oNq (by omega) ?_
   repeat ((conv => whnf); (first | refine ⟨_, ‹_›, ?_⟩ | refine ⟨nbq rfl, _, ‹_›, ?_⟩ | refine ⟨by kernel_rfl, ?_⟩ | exact rfl | exact ⟨nbq rfl, rfl⟩ | refine ⟨by decide, ?_⟩))
  ·rw [if_neg hv]
   rw [CNT_bad hv] at hC
   conv => whnf
   first | refine oTq (by omega) ?_ | refine oFq (by omega) ?_ | refine oEq (by omega) ?_ | refine oNq (by omega) ?_
   repeat ((conv => whnf); (first | refine ⟨_, ‹_›, ?_⟩ | refine ⟨nbq rfl, _, ‹_›, ?_⟩ | refine ⟨by kernel_rfl, ?_⟩ | exact rfl | exact ⟨nbq rfl, rfl⟩ | refine ⟨by decide, ?_⟩))
theorem shaped_ok (sh : List Int) (na : List (Option (Rat × Nat))) (s : List Int) (hv : vS s) (hc : cntI s = (na.length : Int)) : AC Tryz.prog 69 [AA sh false [] na true, .sl 1 (irows .i64 s) false] (.pure (AA s false [] na true)) := by
 obtain ⟨n, hn⟩ : ∃ n, n = na.length := ⟨_, rfl⟩
 have n4 : n ≤ 4096 := by have := vS_pr hv; omega
 have hL : AC Tryz.prog 57 [AA sh false [] na true] (.pure (.val (.int .i64 (n : Int)))) := by
  have := ALen_ok sh false [] na true (by decide) (by omega)
  rw [show ([] : List Int).length + na.length = n by rw [hn]; exact Nat.zero_add _] at this
  exact this
 obtain ⟨Y, hY⟩ : ∃ Y : List Int, Y = (List.range n).map fun i : Nat => (i : Int) := ⟨_, rfl⟩
 have lY : Y.length = n := by rw [hY, List.length_map, List.length_range]
 have hYi : ∀ i (h : i < n), Y[i]'(by omega) = (i : Int) := fun i h => by subst hY; rw [List.getElem_map, List.getElem_range]
 have hP := PickN_ok sh [] na s Y hv (by rw [lY, hn]; exact hc) (by omega)
 have hYx : Y.map (getX na) = na := by
  rw [hY, List.map_map]
  refine List.ext_getElem? fun i => ?_
  rw [List.getElem?_map]
  by_cases hi : i < n
  ·rw [List.getElem?_range hi]
   show some (getX na (i : Int)) = _
   rw [getX_in (by omega), List.getElem?_eq_getElem (by omega)]
  ·rw [List.getElem?_eq_none (by rw [List.length_range]; omega), List.getElem?_eq_none (by omega)]
   rfl
 rw [hYx] at hP
 have lYr := irows_len .i64 Y
 have eP : irows .i64 Y = List.take n (List.drop 0 (irows .i64 Y)) := by rw [List.drop_zero, List.take_of_length_le (by omega)]
 rw [eP] at hP
 have lz : ∀ k, (List.replicate k ([.val (.int .i64 0)] : List AV)).length = k := fun k => List.length_replicate
 have nz : ∀ (L : List Int) k, ∀ r ∈ irows .i64 L ++ List.replicate k ([.val (.int .i64 0)] : List AV), ∀ x ∈ r, NoId x := fun L k r hr => by
  rcases List.mem_append.1 hr with h | h
  ·exact irows_noid _ _ r h
  ·rw [(List.mem_replicate.1 h).2]; exact noid1 (.val _)
 refine AC.of_body TTok Tryz.func69 rfl (enter_of Tryz.func69 (by kernel_rfl) (by kernel_rfl)) (noid2 (AA_noid _ _ _ _ _) (noid_sl _ _ _)) (AA_noid _ _ _ _ _) (nbq rfl) ?_
 unfold AA at *
 conv => whnf
 refine ⟨_, hL, ?_⟩
 conv => whnf
 refine ⟨⟨by omega, by omega, by show ((n : Nat) : Int) * ((8 : Nat) : Int) ≤ 140737488355328; omega⟩, ?_⟩
 conv => whnf
 refine SW.loopM TTok (fun i : Nat => [(1, .sl 1 (irows .i64 s) false), (2, .lp 0 0), (4, .lp 8 0), (5, .own 32 0 n), (13, .val (.int .i64 (n : Int))), (14, .val (.int .i64 (i : Int)))])
  (fun i => [(0, .cells 5 [[.sl 1 (irows .i64 sh) false, .val (.bool false), .sl 1 (irows .i32 []) false, .sl 3 (na.map rowX) false, .val (.bool true)]]), (8, .cells 5 [[.sl 0 [] true, .val (.bool false), .sl 0 [] true, .sl 0 [] true, .val (.bool false)]]), (32, .cells 1 (irows .i64 (Y.take i) ++ List.replicate (n - i) ([.val (.int .i64 0)] : List AV)))]) 72 30 rfl (fun i => n - i) (fun i => i ≤ n) 0 [] (Nat.zero_le _)
  ⟨q2r, q2r, q2r, q2r, q2r, q2r, trivial⟩ ⟨q3r, q3r, ⟨rfl, .inl ⟨rfl, nz _ _⟩⟩, trivial⟩ rfl ?_
 intro i hi
 have hi : i ≤ n := hi
 have ltk : (irows .i64 (Y.take i)).length = i := by rw [irows_len, List.length_take]; omega
 have lr : (irows .i64 (Y.take i) ++ List.replicate (n - i) ([.val (.int .i64 0)] : List AV)).length = n := by rw [List.length_append, ltk, lz]; omega
 by_cases hlt : i < n
 ·have eI : IntKind.i64.wrap ((i : Int) + 1) = ((i + 1 : Nat) : Int) := by rw [IntWalk.i64_in _ (by omega)]; omega
  have hset : (irows .i64 (Y.take i) ++ List.replicate (n - i) ([.val (.int .i64 0)] : List AV)).set i [.val (.int .i64 (i : Int))] = irows .i64 (Y.take (i + 1)) ++ List.replicate (n - (i + 1)) [.val (.int .i64 0)] := by
   rw [rep_drop _ n i hlt, take_snoc (show i < Y.length by omega), hYi i hlt, ← irows_append]
   have := set_mid (irows .i64 (Y.take i)) [.val (.int .i64 0)] [.val (.int .i64 (i : Int))] (List.replicate (n - (i + 1)) [.val (.int .i64 0)])
   rw [ltk] at this
   rw [this, List.append_assoc]; rfl
  conv => whnf
  first | refine oTq (by omega) ?_ | refine oFq (by omega) ?_ | refine oEq (by omega) ?_ | refine oNq (by omega) ?_
  conv => whnf
  refine ⟨by omega, ?_⟩
  conv => whnf
  refine ⟨by rw [Nat.zero_add, Int.toNat_natCast]; omega, ?_⟩
  conv => whnf
  refine ⟨i + 1, [], (by show n - (i + 1) < n - i; omega), hlt, ⟨q2r, q2r, q2r, q2r, q2r, ⟨valI eI, rfl⟩, trivial⟩, ⟨q3r, q3r, ⟨rfl, .inl ⟨celE ?_, nz _ _⟩⟩, trivial⟩, rfl⟩
  rw [← hset]
  show List.set _ (0 + (i : Int).toNat) _ = _
  rw [Nat.zero_add, Int.toNat_natCast]
 ·have hie : i = n := by omega
  have e1 : Y.take i = Y := List.take_of_length_le (by omega)
  rw [e1, hie, Nat.sub_self, List.replicate_zero, List.append_nil]
  conv => whnf
  first | refine oTq (by omega) ?_ | refine oFq (by omega) ?_ | refine oEq (by omega) ?_ | refine oNq (by omega) ?_
  conv => whnf
  refine ⟨by show 0 + n ≤ _; omega, _, hP, ?_⟩
  repeat ((conv => whnf); (first | refine ⟨_, ‹_›, ?_⟩ | refine ⟨nbq rfl, _, ‹_›, ?_⟩ | refine ⟨by kernel_rfl, ?_⟩ | exact rfl | exact ⟨nbq rfl, rfl⟩ | refine ⟨by decide, ?_⟩))
end
section
theorem el_pick {ch : Bool} {tx : List Int} {na : List (Option (Rat × Nat))} {qs : List Rat} (na1 : na.map valX = qs) {L : List Int} {i p : Nat} (hL : L[i]? = some (p : Int)) (hc : ch = true → qs = [] ∧ p < tx.length) (hn : ch = false → tx = []) :
  elA ch (pickT ch tx L) ((pickX ch na L).map valX) i = elA ch tx qs p := by
 have e : (pickX ch na L).map valX = if ch then [] else L.map (getQ qs) := by
  unfold pickX
  rw [ifnil (List.map valX) rfl, getX_map, na1]
 rw [e]
 unfold pickT elA
 cases ch
 ·have := hn rfl
  subst this
  rw [if_neg Bool.false_ne_true, if_neg Bool.false_ne_true, List.getD_eq_getElem?_getD (l := L.map (getQ qs)), List.getElem?_map, hL]
  show (false, ([] : List Int).getD i 0, getQ qs (p : Int)) = _
  rw [getQ_nat]
  rfl
 ·obtain ⟨h1, h2⟩ := hc rfl
  subst h1
  rw [if_pos rfl, if_pos rfl, List.getD_eq_getElem?_getD (l := L.map (getT tx)), List.getElem?_map, hL]
  show (true, getT tx (p : Int), ([] : List Rat).getD i 0) = _
  rw [getT_nat _ h2]
  rfl
theorem pick_len {ch : Bool} {tx : List Int} {na : List (Option (Rat × Nat))} (L : List Int) : (pickT ch tx L).length + (pickX ch na L).length = L.length ∧ (ch = true → (pickX ch na L).length = 0) ∧ (ch = false → (pickT ch tx L).length = 0) := by
 unfold pickT pickX
 cases ch
 ·exact ⟨by rw [if_neg Bool.false_ne_true, if_neg Bool.false_ne_true, List.length_map]; exact Nat.zero_add _, fun h => Bool.noConfusion h, fun _ => rfl⟩
 ·exact ⟨by rw [if_pos rfl, if_pos rfl, List.length_map]; rfl, fun _ => rfl, fun h => Bool.noConfusion h⟩
theorem pick_ok {ch : Bool} {na : List (Option (Rat × Nat))} {qs : List Rat} (na1 : na.map valX = qs) (oa : ∀ o ∈ na, okX o) (hQ : ∀ q ∈ qs, Sz q 20) (L : List Int) : (∀ o ∈ pickX ch na L, okX o) ∧ ∀ q ∈ (pickX ch na L).map valX, Sz q 20 := by
 unfold pickX
 cases ch
 ·rw [if_neg Bool.false_ne_true]
  refine ⟨fun o ho => ?_, fun q hq => ?_⟩
  ·obtain ⟨k, _, rfl⟩ := List.mem_map.1 ho
   exact getX_ok oa k
  ·rw [getX_map, na1] at hq
   obtain ⟨k, _, rfl⟩ := List.mem_map.1 hq
   unfold getQ
   split
   ·exact getD_sz (by decide) hQ _
   ·exact Sz_zero.mono (by decide)
 ·rw [if_pos rfl]
  exact ⟨(fun o ho => nomatch ho), (fun q hq => nomatch hq)⟩
theorem two_pick (c most : Int) (hc : isTwo c) (hm : most ≤ 200) (ca cb : Bool) (ta tb : List Int) (na nb : List (Option (Rat × Nat))) (qa qb : List Rat) (na1 : na.map valX = qa) (nb1 : nb.map valX = qb) (oa : ∀ o ∈ na, okX o) (ob : ∀ o ∈ nb, okX o) (hQa : ∀ q ∈ qa, Sz q 20) (hQb : ∀ q ∈ qb, Sz q 20)
  (n : Nat) (hn : n ≤ 500) (A B : List Int) (f g : Nat → Nat) (lA : A.length = n) (lB : B.length = n) (hA : ∀ i, i < n → A[i]? = some (f i : Int)) (hB : ∀ i, i < n → B[i]? = some (g i : Int))
  (a1 : ca = true → qa = [] ∧ ∀ i, i < n → f i < ta.length) (a2 : ca = false → ta = []) (b1 : cb = true → qb = [] ∧ ∀ i, i < n → g i < tb.length) (b2 : cb = false → tb = []) :
  ∃ l : List (Option (Rat × Nat)), (firstE ((List.range n).map fun i => pairE c most (elA ca ta qa (f i)) (elA cb tb qb (g i))) = 0 → l.map valX = (List.range n).map fun i => (pairE c most (elA ca ta qa (f i)) (elA cb tb qb (g i))).1) ∧ (∀ o ∈ l, okX o) ∧ l.length ≤ 5000 ∧
   AC Tryz.prog 66 [.val (.int .i32 c), AA [(n : Int)] ca (pickT ca ta A) (pickX ca na A) true, AA [(n : Int)] cb (pickT cb tb B) (pickX cb nb B) true, .val (.int .i64 most)] (.pure (resA [(n : Int)] (firstE ((List.range n).map fun i => pairE c most (elA ca ta qa (f i)) (elA cb tb qb (g i)))) l)) := by
 obtain ⟨v1, c1⟩ := vS_single n (by omega)
 obtain ⟨p1, p2, p3⟩ := pick_len (ch := ca) (tx := ta) (na := na) A
 obtain ⟨q1, q2, q3⟩ := pick_len (ch := cb) (tx := tb) (na := nb) B
 obtain ⟨o1, s1⟩ := pick_ok (ch := ca) na1 oa hQa A
 obtain ⟨o2, s2⟩ := pick_ok (ch := cb) nb1 ob hQb B
 have k1 : kinds [(n : Int)] ca (pickT ca ta A).length (pickX ca na A).length := by
  unfold kinds
  rw [c1]
  cases ca
  ·have := p3 rfl
   exact ⟨by omega, this⟩
  ·have := p2 rfl
   exact ⟨by omega, this⟩
 have k2 : kinds [(n : Int)] cb (pickT cb tb B).length (pickX cb nb B).length := by
  unfold kinds
  rw [c1]
  cases cb
  ·have := q3 rfl
   exact ⟨by omega, this⟩
  ·have := q2 rfl
   exact ⟨by omega, this⟩
 obtain ⟨l, w1, w2, w3, w4⟩ := PTwoN_ok c [(n : Int)] [(n : Int)] ca cb (pickT ca ta A) (pickT cb tb B) (pickX ca na A) (pickX cb nb B) o1 o2 _ _ rfl rfl most hm v1 v1 (by rw [List.length_map]; exact k1) (by rw [List.length_map]; exact k2) (by omega) (by omega) (by rw [List.length_map]; omega) (by rw [List.length_map]; omega) s1 s2
 have fit : fitS [(n : Int)] [(n : Int)] ((pickT ca ta A).length + ((pickX ca na A).map valX).length) ((pickT cb tb B).length + ((pickX cb nb B).map valX).length) = ([(n : Int)], false, false, 0) := if_pos rfl
 have he : ∀ i, i < n → elemF c ca cb (pickT ca ta A) (pickT cb tb B) ((pickX ca na A).map valX) ((pickX cb nb B).map valX) false false most i = pairE c most (elA ca ta qa (f i)) (elA cb tb qb (g i)) := fun i hi => by
  rw [← el_pick na1 (hA i hi) (fun h => ⟨(a1 h).1, (a1 h).2 i hi⟩) a2, ← el_pick nb1 (hB i hi) (fun h => ⟨(b1 h).1, (b1 h).2 i hi⟩) b2]
  rfl
 have hE : twoE c [(n : Int)] [(n : Int)] ca cb (pickT ca ta A) (pickT cb tb B) ((pickX ca na A).map valX) ((pickX cb nb B).map valX) most = firstE ((List.range n).map fun i => pairE c most (elA ca ta qa (f i)) (elA cb tb qb (g i))) := by
  unfold twoE
  rw [if_pos hc, fit, if_neg (fun h => h rfl)]
  show firstE ((List.range (cntI [(n : Int)]).toNat).map _) = _
  rw [c1, Int.toNat_natCast]
  congr 1
  exact List.map_congr_left fun i hi => he i (List.mem_range.1 hi)
 have hV : twoV c [(n : Int)] [(n : Int)] ca cb (pickT ca ta A) (pickT cb tb B) ((pickX ca na A).map valX) ((pickX cb nb B).map valX) most = (List.range n).map fun i => (pairE c most (elA ca ta qa (f i)) (elA cb tb qb (g i))).1 := by
  unfold twoV
  rw [fit]
  show (List.range (cntI [(n : Int)]).toNat).map _ = _
  rw [c1, Int.toNat_natCast]
  exact List.map_congr_left fun i hi => congrArg Prod.fst (he i (List.mem_range.1 hi))
 rw [fit, hE] at w4
 rw [hE, hV] at w1
 exact ⟨l, w1, w2, w3, w4⟩
section
variable (c most : Int) (sa sb : List Int) (ca cb : Bool) (ta tb : List Int) (na nb : List (Option (Rat × Nat)))
theorem out_nd : ∀ x ∈ [AV.val (.int .i32 c), AA sa ca ta na true, AA sb cb tb nb true, .val (.int .i64 most)], NoId x := noidF (.val _) (AA_noid _ _ _ _ _) (AA_noid _ _ _ _ _) (.val _)
theorem Outer_not (h : ¬ isTwo c) : AC Tryz.prog 24 [.val (.int .i32 c), AA sa ca ta na true, AA sb cb tb nb true, .val (.int .i64 most)] (.pure (.tup [AA [] false [] [] false, .val (.int .i64 20)])) := by
 have hH := Has_ok c
 rw [decide_eq_false h] at hH
 refine Red_err ?_
 refine AC.of_body TTok Tryz.func24 rfl (enter_of Tryz.func24 (by kernel_rfl) (by kernel_rfl)) (out_nd c most sa sb ca cb ta tb na nb) (AZf_noid _) (nbq rfl) ?_
 unfold AA AZ
 repeat ((conv => whnf); (first | refine ⟨_, ‹_›, ?_⟩ | refine ⟨nbq rfl, _, ‹_›, ?_⟩ | refine ⟨by kernel_rfl, ?_⟩ | exact rfl | exact ⟨nbq rfl, rfl⟩ | refine ⟨by decide, ?_⟩))
theorem join2 (h1 : sa.length ≤ 8) (h2 : sb.length ≤ 8) : AC Tryz.prog 64 [.sl 1 [[.sl 1 (irows .i64 sa) false], [.sl 1 (irows .i64 sb) false]] false] (.pure (.sl 1 (irows .i64 (sa ++ sb)) false)) := by
 have hc := ShJoin_ok [sa, sb] (by show 2 ≤ 1000; omega) (by simp; omega)
 rw [show [sa, sb].flatten = sa ++ sb by simp] at hc
 exact hc
theorem Outer_room (h : isTwo c) (h1 : sa.length ≤ 8) (h2 : sb.length ≤ 8) (hr : roomE (sa ++ sb) ≠ 0) : AC Tryz.prog 24 [.val (.int .i32 c), AA sa ca ta na true, AA sb cb tb nb true, .val (.int .i64 most)] (.pure (.tup [AA [] false [] [] false, .val (.int .i64 (roomE (sa ++ sb)))])) := by
 have hH := Has_ok c
 rw [decide_eq_true h] at hH
 have hSa := Shape_ok sa ca ta na (by omega)
 have hSb := Shape_ok sb cb tb nb (by omega)
 have hJ := join2 sa sb h1 h2
 have hR := room_ok (sa ++ sb) (by rw [List.length_append]; omega)
 rw [if_neg hr] at hR
 generalize roomE (sa ++ sb) = e at *
 refine Red_err ?_
 refine AC.of_body TTok Tryz.func24 rfl (enter_of Tryz.func24 (by kernel_rfl) (by kernel_rfl)) (out_nd c most sa sb ca cb ta tb na nb) (AZf_noid _) (nbq rfl) ?_
 unfold AA AZ at *
 conv => whnf
 refine ⟨_, hH, ?_⟩
 conv => whnf
 refine ⟨_, hSa, ?_⟩
 conv => whnf
 refine ⟨_, hSb, ?_⟩
 conv => whnf
 refine ⟨(nbq rfl), _, hJ, ?_⟩
 conv => whnf
 refine ⟨by kernel_rfl, ?_⟩
 conv => whnf
 refine ⟨_, hR, ?_⟩
 conv => whnf
 first | refine nTq (by omega) ?_ | refine nFq (by omega) ?_
 repeat ((conv => whnf); (first | refine ⟨_, ‹_›, ?_⟩ | refine ⟨nbq rfl, _, ‹_›, ?_⟩ | refine ⟨by kernel_rfl, ?_⟩ | exact rfl | exact ⟨nbq rfl, rfl⟩ | refine ⟨by decide, ?_⟩))
end
end
section
def outP (c most : Int) (ca cb : Bool) (ta tb : List Int) (qa qb : List Rat) (lb n : Nat) : List (Rat × Int) := (List.range n).map fun i => pairE c most (elA ca ta qa (i / lb)) (elA cb tb qb (i % lb))
theorem nz_noid (L : List Int) (k : Nat) : ∀ r ∈ irows .i64 L ++ List.replicate k ([.val (.int .i64 0)] : List AV), ∀ x ∈ r, NoId x := fun r hr => by
 rcases List.mem_append.1 hr with h | h
 ·exact irows_noid _ _ r h
 ·rw [(List.mem_replicate.1 h).2]; exact noid1 (.val _)
theorem fill_set (Y : List Int) (n i : Nat) (y : Int) (hi : i < n) (lY : Y.length = n) (hy : Y[i]? = some y) :
  (irows .i64 (Y.take i) ++ List.replicate (n - i) ([.val (.int .i64 0)] : List AV)).set i [.val (.int .i64 y)] = irows .i64 (Y.take (i + 1)) ++ List.replicate (n - (i + 1)) [.val (.int .i64 0)] := by
 have ltk : (irows .i64 (Y.take i)).length = i := by rw [irows_len, List.length_take]; omega
 have hY : Y[i]'(by omega) = y := by rw [List.getElem?_eq_getElem (by omega)] at hy; exact Option.some.inj hy
 rw [rep_drop _ n i hi, take_snoc (show i < Y.length by omega), hY, ← irows_append]
 have := set_mid (irows .i64 (Y.take i)) [.val (.int .i64 0)] [.val (.int .i64 y)] (List.replicate (n - (i + 1)) [.val (.int .i64 0)])
 rw [ltk] at this
 rw [this, List.append_assoc]; rfl
set_option maxRecDepth 20000 in
theorem Outer_good (c most : Int) (hc : isTwo c) (hm : most ≤ 200) (sa sb : List Int) (ca cb : Bool) (ta tb : List Int) (na nb : List (Option (Rat × Nat))) (qa qb : List Rat) (na1 : na.map valX = qa) (nb1 : nb.map valX = qb) (oa : ∀ o ∈ na, okX o) (ob : ∀ o ∈ nb, okX o) (hQa : ∀ q ∈ qa, Sz q 20) (hQb : ∀ q ∈ qb, Sz q 20)
  (va : vS sa) (vb : vS sb) (ka : kinds sa ca ta.length na.length) (kb : kinds sb cb tb.length nb.length) (hr : roomE (sa ++ sb) = 0) (n5 : pr sa * pr sb ≤ 500) :
  ∃ l : List (Option (Rat × Nat)), (firstE (outP c most ca cb ta tb qa qb (pr sb) (pr sa * pr sb)) = 0 → l.map valX = (outP c most ca cb ta tb qa qb (pr sb) (pr sa * pr sb)).map (·.1)) ∧ (∀ o ∈ l, okX o) ∧ l.length ≤ 5000 ∧
   AC Tryz.prog 24 [.val (.int .i32 c), AA sa ca ta na true, AA sb cb tb nb true, .val (.int .i64 most)] (.pure (resF (sa ++ sb) false [] l (firstE (outP c most ca cb ta tb qa qb (pr sb) (pr sa * pr sb))))) := by
 have hv : vS (sa ++ sb) := by
  unfold roomE at hr
  by_cases h8 : 8 < (sa ++ sb).length
  ·rw [if_pos h8] at hr; exact absurd hr (by decide)
  ·rw [if_neg h8] at hr
   by_cases hv : vS (sa ++ sb)
   ·exact hv
   ·rw [if_neg hv] at hr; exact absurd hr (by decide)
 obtain ⟨k1, k2⟩ := kinds_c va ka
 obtain ⟨k3, k4⟩ := kinds_c vb kb
 have pa4 := (vS_pr va).2
 have pb4 := (vS_pr vb).2
 obtain ⟨la, hla⟩ : ∃ la, la = pr sa := ⟨_, rfl⟩
 obtain ⟨lb, hlb⟩ : ∃ lb, lb = pr sb := ⟨_, rfl⟩
 have hcn : cntI (sa ++ sb) = ((la * lb : Nat) : Int) := by rw [(vS_pr hv).1, pr_append, hla, hlb]
 rw [← hla] at k1 k2 pa4
 rw [← hlb] at k3 k4 pb4
 rw [← hla, ← hlb] at n5 ⊢
 obtain ⟨n, hn⟩ : ∃ n, n = la * lb := ⟨_, rfl⟩
 rw [← hn] at hcn n5 ⊢
 have lqa : qa.length = na.length := by rw [← na1, List.length_map]
 have lqb : qb.length = nb.length := by rw [← nb1, List.length_map]
 have ltb : tb.length + nb.length = lb := by
  cases cb
  ·have := k4 rfl; omega
  ·have := k3 rfl; omega
 have lta : ta.length + na.length = la := by
  cases ca
  ·have := k2 rfl; omega
  ·have := k1 rfl; omega
 have hH := Has_ok c
 rw [decide_eq_true hc] at hH
 have hSa := Shape_ok sa ca ta na (by have := va.1; omega)
 have hSb := Shape_ok sb cb tb nb (by have := vb.1; omega)
 have hJ := join2 sa sb va.1 vb.1
 have hR := room_ok (sa ++ sb) (by rw [List.length_append]; have := va.1; have := vb.1; omega)
 rw [if_pos hr, hr, hcn] at hR
 have hL := ALen_ok sb cb tb nb true (by omega) (by omega)
 rw [ltb] at hL
 obtain ⟨A, hA⟩ : ∃ A : List Int, A = (List.range n).map fun i : Nat => ((i / lb : Nat) : Int) := ⟨_, rfl⟩
 obtain ⟨B, hB⟩ : ∃ B : List Int, B = (List.range n).map fun i : Nat => ((i % lb : Nat) : Int) := ⟨_, rfl⟩
 have lA : A.length = n := by rw [hA, List.length_map, List.length_range]
 have lB : B.length = n := by rw [hB, List.length_map, List.length_range]
 have hAi : ∀ i, i < n → A[i]? = some ((i / lb : Nat) : Int) := fun i hi => by rw [hA, List.getElem?_map, List.getElem?_range hi]; rfl
 have hBi : ∀ i, i < n → B[i]? = some ((i % lb : Nat) : Int) := fun i hi => by rw [hB, List.getElem?_map, List.getElem?_range hi]; rfl
 have hdiv : ∀ i, i < n → i / lb < la ∧ i % lb < lb := fun i hi => by
  rw [hn] at hi
  have hp : 0 < lb := Nat.pos_of_ne_zero fun e => by rw [e] at hi; omega
  exact ⟨Nat.div_lt_of_lt_mul (by rw [Nat.mul_comm]; exact hi), Nat.mod_lt _ hp⟩
 have hSpA := spread_ok sa ca ta na A (by omega) (by omega) (by omega)
 have hSpB := spread_ok sb cb tb nb B (by omega) (by omega) (by omega)
 rw [lA] at hSpA
 rw [lB] at hSpB
 have lAr := irows_len .i64 A
 have lBr := irows_len .i64 B
 have eA : irows .i64 A = List.take n (List.drop 0 (irows .i64 A)) := by rw [List.drop_zero, List.take_of_length_le (by omega)]
 have eB : irows .i64 B = List.take n (List.drop 0 (irows .i64 B)) := by rw [List.drop_zero, List.take_of_length_le (by omega)]
 rw [eA] at hSpA
 rw [eB] at hSpB
 obtain ⟨l, w1, w2, w3, w4⟩ := two_pick c most hc hm ca cb ta tb na nb qa qb na1 nb1 oa ob hQa hQb n n5 A B (fun i => i / lb) (fun i => i % lb) lA lB hAi hBi
  (fun h => ⟨List.length_eq_zero_iff.1 (by rw [lqa]; exact (k1 h).2), fun i hi => by have := (hdiv i hi).1; have := (k1 h).1; omega⟩) (fun h => List.length_eq_zero_iff.1 (k2 h).2)
  (fun h => ⟨List.length_eq_zero_iff.1 (by rw [lqb]; exact (k3 h).2), fun i hi => by have := (hdiv i hi).2; have := (k3 h).1; omega⟩) (fun h => List.length_eq_zero_iff.1 (k4 h).2)
 have w4 : AC Tryz.prog 66 [.val (.int .i32 c), AA [(n : Int)] ca (pickT ca ta A) (pickX ca na A) true, AA [(n : Int)] cb (pickT cb tb B) (pickX cb nb B) true, .val (.int .i64 most)] (.pure (resA [(n : Int)] (firstE (outP c most ca cb ta tb qa qb lb n)) l)) := w4
 have w1 : firstE (outP c most ca cb ta tb qa qb lb n) = 0 → l.map valX = (outP c most ca cb ta tb qa qb lb n).map (·.1) := fun h => by rw [w1 h]; unfold outP; rw [List.map_map]; rfl
 refine ⟨l, w1, w2, w3, ?_⟩
 have ll : firstE (outP c most ca cb ta tb qa qb lb n) = 0 → l.length = n := fun h => by
  have := congrArg List.length (w1 h)
  unfold outP at this
  rw [List.length_map, List.length_map, List.length_map, List.length_range] at this
  exact this
 have hSh : firstE (outP c most ca cb ta tb qa qb lb n) = 0 → AC Tryz.prog 69 [AA [(n : Int)] false [] l true, .sl 1 (irows .i64 (sa ++ sb)) false] (.pure (AA (sa ++ sb) false [] l true)) := fun h => shaped_ok [(n : Int)] l (sa ++ sb) hv (by rw [hcn, ll h])
 generalize firstE (outP c most ca cb ta tb qa qb lb n) = E at *
 generalize pickT ca ta A = TA at *
 generalize pickT cb tb B = TB at *
 generalize pickX ca na A = XA at *
 generalize pickX cb nb B = XB at *
 obtain ⟨r', hle, hno, e1, e2⟩ : ∃ r', AVle r' (resF (sa ++ sb) false [] l E) ∧ NoId r' ∧ (E = 0 → r' = .tup [AA (sa ++ sb) false [] l true, .val (.int .i64 0)]) ∧ (E ≠ 0 → r' = .tup [AZ, .val (.int .i64 E)]) := by
  unfold resF
  by_cases h : E = 0
  ·rw [if_pos h]
   exact ⟨_, .refl _, .tup _ (noid2 (AA_noid _ _ _ _ _) (.val _)), fun _ => rfl, fun h' => absurd h h'⟩
  ·rw [if_neg h]
   exact ⟨_, .tup2 AZ_le (.refl _), AZf_noid _, fun h' => absurd h' h, fun _ => rfl⟩
 refine AC.le_res (?_ : AC Tryz.prog 24 _ (.pure r')) hle (resF_noid _ _ _ _ _)
 have lz : ∀ k, (List.replicate k ([.val (.int .i64 0)] : List AV)).length = k := fun k => List.length_replicate
 clear w1 ll hA hB eA eB
 refine AC.of_body TTok Tryz.func24 rfl (enter_of Tryz.func24 (by kernel_rfl) (by kernel_rfl)) (out_nd c most sa sb ca cb ta tb na nb) hno (nbq rfl) ?_
 unfold AA AZ at *
 conv => whnf
 refine ⟨_, hH, ?_⟩
 conv => whnf
 refine ⟨_, hSa, ?_⟩
 conv => whnf
 refine ⟨_, hSb, ?_⟩
 conv => whnf
 refine ⟨(nbq rfl), _, hJ, ?_⟩
 conv => whnf
 refine ⟨by kernel_rfl, ?_⟩
 conv => whnf
 refine ⟨_, hR, ?_⟩
 conv => whnf
 refine ⟨⟨by omega, by omega, by show ((n : Nat) : Int) * ((8 : Nat) : Int) ≤ 140737488355328; omega⟩, ?_⟩
 conv => whnf
 refine ⟨⟨by omega, by omega, by show ((n : Nat) : Int) * ((8 : Nat) : Int) ≤ 140737488355328; omega⟩, ?_⟩
 conv => whnf
 refine ⟨by kernel_rfl, ?_⟩
 conv => whnf
 refine SW.loopM TTok (fun i : Nat => [(0, .val (.int .i32 c)), (3, .val (.int .i64 most)), (5, .lp 0 0), (6, .lp 8 0), (8, .lp 16 0), (9, .val (.int .i64 0)), (10, .sl 1 (irows .i64 (sa ++ sb)) false), (13, .own 192 0 n), (14, .own 208 0 n), (40, .val (.int .i64 (n : Int))), (41, .val (.int .i64 (i : Int)))])
  (fun i => [(0, .cells 5 [[.sl 1 (irows .i64 sa) false, .val (.bool ca), .sl 1 (irows .i32 ta) false, .sl 3 (na.map rowX) false, .val (.bool true)]]), (8, .cells 5 [[.sl 1 (irows .i64 sb) false, .val (.bool cb), .sl 1 (irows .i32 tb) false, .sl 3 (nb.map rowX) false, .val (.bool true)]]), (16, .cells 5 [[.sl 0 [] true, .val (.bool false), .sl 0 [] true, .sl 0 [] true, .val (.bool false)]]), (192, .cells 1 (irows .i64 (A.take i) ++ List.replicate (n - i) ([.val (.int .i64 0)] : List AV))), (208, .cells 1 (irows .i64 (B.take i) ++ List.replicate (n - i) ([.val (.int .i64 0)] : List AV)))]) 248 78 rfl (fun i => n - i) (fun i => i ≤ n) 0 [] (Nat.zero_le _)
  ⟨q2r, q2r, q2r, q2r, q2r, q2r, q2r, q2r, q2r, q2r, q2r, trivial⟩ ⟨q3r, q3r, q3r, ⟨rfl, .inl ⟨rfl, nz_noid _ _⟩⟩, ⟨rfl, .inl ⟨rfl, nz_noid _ _⟩⟩, trivial⟩ rfl ?_
 intro i hJ
 have hi : i ≤ n := hJ
 clear hJ
 have ltA : (irows .i64 (A.take i)).length = i := by rw [irows_len, List.length_take]; omega
 have ltB : (irows .i64 (B.take i)).length = i := by rw [irows_len, List.length_take]; omega
 have lrA : (irows .i64 (A.take i) ++ List.replicate (n - i) ([.val (.int .i64 0)] : List AV)).length = n := by rw [List.length_append, ltA, lz]; omega
 have lrB : (irows .i64 (B.take i) ++ List.replicate (n - i) ([.val (.int .i64 0)] : List AV)).length = n := by rw [List.length_append, ltB, lz]; omega
 by_cases hlt : i < n
 ·have eI : IntKind.i64.wrap ((i : Int) + 1) = ((i + 1 : Nat) : Int) := by rw [IntWalk.i64_in _ (by omega)]; omega
  have hsA := fill_set A n i _ hlt lA (hAi i hlt)
  have hsB := fill_set B n i _ hlt lB (hBi i hlt)
  have hp : lb ≠ 0 := fun e => by rw [hn, e] at hlt; omega
  have dq : IntKind.i64.wrap (((i : Int)).tdiv (lb : Int)) = ((i / lb : Nat) : Int) := by
   have := Nat.div_le_self i lb
   rw [Int.tdiv_eq_ediv_of_nonneg (Int.natCast_nonneg _), ← Int.natCast_ediv, wrap_nat' _ (by omega)]
  have dr : ((i : Int)).tmod (lb : Int) = ((i % lb : Nat) : Int) := by rw [Int.tmod_eq_emod_of_nonneg (Int.natCast_nonneg _), ← Int.natCast_emod]
  conv => whnf
  first | refine oTq (by omega) ?_ | refine oFq (by omega) ?_ | refine oEq (by omega) ?_ | refine oNq (by omega) ?_
  conv => whnf
  refine ⟨_, hL, ?_⟩
  conv => whnf
  refine ⟨by omega, ?_⟩
  conv => whnf
  refine ⟨_, hL, ?_⟩
  conv => whnf
  refine ⟨by omega, ?_⟩
  conv => whnf
  refine ⟨by omega, ?_⟩
  conv => whnf
  refine ⟨by rw [Nat.zero_add, Int.toNat_natCast]; omega, ?_⟩
  conv => whnf
  refine ⟨by omega, ?_⟩
  conv => whnf
  refine ⟨by rw [Nat.zero_add, Int.toNat_natCast]; omega, ?_⟩
  conv => whnf
  refine ⟨by kernel_rfl, ?_⟩
  conv => whnf
  refine ⟨i + 1, [], (by show n - (i + 1) < n - i; omega), hlt, ⟨q2r, q2r, q2r, q2r, q2r, q2r, q2r, q2r, q2r, q2r, ⟨valI eI, rfl⟩, trivial⟩, ⟨q3r, q3r, q3r, ⟨rfl, .inl ⟨celE ?_, nz_noid _ _⟩⟩, ⟨rfl, .inl ⟨celE ?_, nz_noid _ _⟩⟩, trivial⟩, rfl⟩
  ·rw [← hsA]
   show List.set _ (0 + (i : Int).toNat) [AV.val (.int .i64 (IntKind.i64.wrap (((i : Int)).tdiv (lb : Int))))] = _
   rw [Nat.zero_add, Int.toNat_natCast, dq]
  ·rw [← hsB]
   show List.set _ (0 + (i : Int).toNat) [AV.val (.int .i64 (((i : Int)).tmod (lb : Int)))] = _
   rw [Nat.zero_add, Int.toNat_natCast, dr]
 ·have hie : i = n := by omega
  have e3 : A.take i = A := List.take_of_length_le (by omega)
  have e4 : B.take i = B := List.take_of_length_le (by omega)
  rw [e3, e4, hie, Nat.sub_self, List.replicate_zero, List.append_nil, List.append_nil]
  unfold resA AA at w4
  by_cases hE : E = 0
  ·rw [if_pos hE] at w4
   rw [e1 hE]
   have hSh := hSh hE
   conv => whnf
   first | refine oTq (by omega) ?_ | refine oFq (by omega) ?_ | refine oEq (by omega) ?_ | refine oNq (by omega) ?_
   conv => whnf
   refine ⟨by show 0 + n ≤ _; omega, _, hSpA, ?_⟩
   conv => whnf
   refine ⟨by show 0 + n ≤ _; omega, _, hSpB, ?_⟩
   conv => whnf
   refine ⟨_, w4, ?_⟩
   conv => whnf
   refine ⟨by kernel_rfl, ?_⟩
   conv => whnf
   refine ⟨_, hSh, ?_⟩
   repeat ((conv => whnf); (first | refine ⟨_, ‹_›, ?_⟩ | refine ⟨nbq rfl, _, ‹_›, ?_⟩ | refine ⟨by kernel_rfl, ?_⟩ | exact rfl | exact ⟨nbq rfl, rfl⟩ | refine ⟨by decide, ?_⟩))
  ·rw [if_neg hE] at w4
   rw [e2 hE]
   conv => whnf
   first | refine oTq (by omega) ?_ | refine oFq (by omega) ?_ | refine oEq (by omega) ?_ | refine oNq (by omega) ?_
   conv => whnf
   refine ⟨by show 0 + n ≤ _; omega, _, hSpA, ?_⟩
   conv => whnf
   refine ⟨by show 0 + n ≤ _; omega, _, hSpB, ?_⟩
   conv => whnf
   refine ⟨_, w4, ?_⟩
   conv => whnf
   refine ⟨by kernel_rfl, ?_⟩
   conv => whnf
   first | refine nTq (by omega) ?_ | refine nFq (by omega) ?_
   repeat ((conv => whnf); (first | refine ⟨_, ‹_›, ?_⟩ | refine ⟨nbq rfl, _, ‹_›, ?_⟩ | refine ⟨by kernel_rfl, ?_⟩ | exact rfl | exact ⟨nbq rfl, rfl⟩ | refine ⟨by decide, ?_⟩))
end
section
def PAe (ch : Bool) (t : Int) (q : Rat) : AV := PA [] ch (if ch then [t] else []) (if ch then [] else [q])
theorem PAe_noid (ch : Bool) (t : Int) (q : Rat) : NoId (PAe ch t q) := PA_noid _ _ _ _
theorem RPick_nil {a : AV} {at_ : List Int} {r : AV} (ha : NoId a) (h : AC Tryz.prog 82 [a, .sl 1 (irows .i64 []) false, .sl 1 (irows .i64 at_) false] (.pure r)) : AC Tryz.prog 82 [a, .sl 0 [] true, .sl 1 (irows .i64 at_) false] (.pure r) :=
 AC.le_args h rfl (fun i x y hx hy => by
  rcases i with _ | _ | _ | i
  ·simp at hx hy; subst hx; subst hy; exact .refl _
  ·simp at hx hy; subst hx; subst hy; exact le_nil 1
  ·simp at hx hy; subst hx; subst hy; exact .refl _
  ·simp at hx) (noid3 ha (.sl _ _ _ (fun r hr => nomatch hr)) (noid_sl _ _ _))
theorem alone_ok (sh : List Int) (ch : Bool) (tx : List Int) (qs : List Rat) (i : Nat) (h1 : tx.length ≤ 5000) (h2 : qs.length ≤ 5000) (k1 : ch = true → qs = []) (k2 : ch = false → tx = []) :
  AC Tryz.prog 79 [PA sh ch tx qs, .val (.int .i64 (i : Int))] (.pure (PAe ch (getT tx (i : Int)) (getQ qs (i : Int)))) := by
 have hP : AC Tryz.prog 82 [PA sh ch tx qs, .sl 0 [] true, .sl 1 (irows .i64 [(i : Int)]) false] (.pure (PAe ch (getT tx (i : Int)) (getQ qs (i : Int)))) := by
  refine RPick_nil (PA_noid _ _ _ _) ?_
  cases ch
  ·have := k2 rfl
   subst this
   exact RPickN_ok sh qs [] [(i : Int)] (by decide) (by show 1 ≤ 5000; omega) (by omega)
  ·have := k1 rfl
   subst this
   exact RPickT_ok sh tx [] [(i : Int)] (by decide) (by show 1 ≤ 5000; omega) (by omega)
 refine AC.of_body TTok Tryz.func79 rfl (enter_of Tryz.func79 (by kernel_rfl) (by kernel_rfl)) (noid2 (PA_noid _ _ _ _) (.val _)) (PAe_noid _ _ _) (nbq rfl) ?_
 unfold PAe PA at *
 conv => whnf
 refine ⟨(nbq rfl), _, hP, ?_⟩
 repeat ((conv => whnf); (first | refine ⟨_, ‹_›, ?_⟩ | refine ⟨nbq rfl, _, ‹_›, ?_⟩ | refine ⟨by kernel_rfl, ?_⟩ | exact rfl | exact ⟨nbq rfl, rfl⟩ | refine ⟨by decide, ?_⟩))
theorem two_one (c most : Int) (hm : most ≤ 200) (ca cb : Bool) (x y : Int) (p q : Rat) (lp : Sz p 20) (lq : Sz q 20) (hc : isTwo c) :
  AC Tryz.prog 78 [.val (.int .i32 c), PAe ca x p, PAe cb y q, .val (.int .i64 most)] (.pure (resP [] (pairV c ca cb x y p q most).2 [(pairV c ca cb x y p q most).1])) := by
 have k : ∀ (ch : Bool) (t : Int) (w : Rat), kinds [] ch (if ch then [t] else []).length (if ch then [] else [w]).length := fun ch t w => by
  cases ch
  ·exact q2r
  ·exact q2r
 have l1 : ∀ (ch : Bool) (t : Int), (if ch then [t] else []).length ≤ 500 := fun ch t => by
  cases ch
  ·show 0 ≤ 500; omega
  ·show 1 ≤ 500; omega
 have l2 : ∀ (ch : Bool) (w : Rat), (if ch then [] else [w]).length ≤ 500 := fun ch w => by
  cases ch
  ·show 1 ≤ 500; omega
  ·show 0 ≤ 500; omega
 have s1 : ∀ (ch : Bool) (w : Rat), Sz w 20 → ∀ z ∈ (if ch then [] else [w]), Sz z 20 := fun ch w hw z hz => by
  cases ch
  ·rw [List.mem_singleton.1 hz]; exact hw
  ·exact nomatch hz
 have h := RTwoN_ok c [] [] ca cb (if ca then [x] else []) (if cb then [y] else []) (if ca then [] else [p]) (if cb then [] else [q]) most hm (by decide) (by decide) (k ca x p) (k cb y q) (l1 ca x) (l1 cb y) (l2 ca p) (l2 cb q) (s1 ca p lp) (s1 cb q lq)
 have fit : fitS [] [] ((if ca then [x] else []).length + (if ca then [] else [p]).length) ((if cb then [y] else []).length + (if cb then [] else [q]).length) = ([], false, false, 0) := if_pos rfl
 have he : elemF c ca cb (if ca then [x] else []) (if cb then [y] else []) (if ca then [] else [p]) (if cb then [] else [q]) false false most 0 = pairV c ca cb x y p q most := by
  cases ca <;> cases cb <;> rfl
 have hE : twoE c [] [] ca cb (if ca then [x] else []) (if cb then [y] else []) (if ca then [] else [p]) (if cb then [] else [q]) most = (pairV c ca cb x y p q most).2 := by
  unfold twoE
  rw [if_pos hc, fit, if_neg (fun h => h rfl)]
  show firstE [elemF c ca cb (if ca then [x] else []) (if cb then [y] else []) (if ca then [] else [p]) (if cb then [] else [q]) false false most 0] = _
  rw [he, firstE_fst0]
  show (if (pairV c ca cb x y p q most).2 ≠ 0 then (pairV c ca cb x y p q most).2 else 0) = _
  split
  ·rfl
  ·rename_i h; exact (Decidable.byContradiction h).symm
 have hV : twoV c [] [] ca cb (if ca then [x] else []) (if cb then [y] else []) (if ca then [] else [p]) (if cb then [] else [q]) most = [(pairV c ca cb x y p q most).1] := by
  unfold twoV
  rw [fit]
  show [(elemF c ca cb (if ca then [x] else []) (if cb then [y] else []) (if ca then [] else [p]) (if cb then [] else [q]) false false most 0).1] = _
  rw [he]
 rw [fit, hE, hV] at h
 exact h
theorem ROuter_not (c most : Int) (sa sb : List Int) (ca cb : Bool) (ta tb : List Int) (qa qb : List Rat) (h : ¬ isTwo c) : AC Tryz.prog 29 [.val (.int .i32 c), PA sa ca ta qa, PA sb cb tb qb, .val (.int .i64 most)] (.pure (.tup [PA [] false [] [], .val (.int .i64 20)])) := by
 have hH := SHas_ok c
 rw [decide_eq_false h] at hH
 refine AC.le_res (?_ : AC Tryz.prog 29 _ (.pure (.tup [PZ, .val (.int .i64 20)]))) (.tup2 PZ_le (.refl _)) (.tup _ (noid2 (PA_noid _ _ _ _) (.val _)))
 refine AC.of_body TTok Tryz.func29 rfl (enter_of Tryz.func29 (by kernel_rfl) (by kernel_rfl)) (noidF (.val _) (PA_noid _ _ _ _) (PA_noid _ _ _ _) (.val _)) (.tup _ (noid2 PZ_noid (.val _))) (nbq rfl) ?_
 unfold PA PZ
 repeat ((conv => whnf); (first | refine ⟨_, ‹_›, ?_⟩ | refine ⟨nbq rfl, _, ‹_›, ?_⟩ | refine ⟨by kernel_rfl, ?_⟩ | exact rfl | exact ⟨nbq rfl, rfl⟩ | refine ⟨by decide, ?_⟩))
end
section
theorem cat2_key (sa sb : List Int) : List.take (0 + (irows .i64 sa).length + (irows .i64 sb).length) (List.drop 0 (List.take (0 + (irows .i64 sa).length) (List.drop 0 (List.take 0 (List.drop 0 ([] : List (List AV))) ++ irows .i64 sa)) ++ irows .i64 sb)) = irows .i64 (sa ++ sb) := by
 simp only [List.drop_zero, List.take_zero, List.nil_append, Nat.zero_add, List.take_length]
 rw [List.take_of_length_le (by rw [List.length_append]; omega), ← irows_append]
theorem resP_noid (sh : List Int) (E : Int) (l : List Rat) : NoId (resP sh E l) := by
 unfold resP
 split
 ·exact .tup _ (noid2 (PA_noid _ _ _ _) (.val _))
 ·exact .tup _ (noid2 (PA_noid _ _ _ _) (.val _))
theorem ROuter_room (c most : Int) (sa sb : List Int) (ca cb : Bool) (ta tb : List Int) (qa qb : List Rat) (h : isTwo c) (h1 : sa.length ≤ 8) (h2 : sb.length ≤ 8) (hr : roomE (sa ++ sb) ≠ 0) :
  AC Tryz.prog 29 [.val (.int .i32 c), PA sa ca ta qa, PA sb cb tb qb, .val (.int .i64 most)] (.pure (.tup [PA [] false [] [], .val (.int .i64 (roomE (sa ++ sb)))])) := by
 have hH := SHas_ok c
 rw [decide_eq_true h] at hH
 have lsa := irows_len .i64 sa
 have lsb := irows_len .i64 sb
 have hR := roomR_ok (sa ++ sb) (by rw [List.length_append]; omega)
 rw [← cat2_key] at hR
 generalize roomE (sa ++ sb) = e at *
 refine AC.le_res (?_ : AC Tryz.prog 29 _ (.pure (.tup [PZ, .val (.int .i64 e)]))) (.tup2 PZ_le (.refl _)) (.tup _ (noid2 (PA_noid _ _ _ _) (.val _)))
 refine AC.of_body TTok Tryz.func29 rfl (enter_of Tryz.func29 (by kernel_rfl) (by kernel_rfl)) (noidF (.val _) (PA_noid _ _ _ _) (PA_noid _ _ _ _) (.val _)) (.tup _ (noid2 PZ_noid (.val _))) (nbq rfl) ?_
 unfold PA PZ at *
 conv => whnf
 refine ⟨_, hH, ?_⟩
 conv => whnf
 refine ⟨⟨Nat.le_refl _, by show (0 + (irows .i64 sa).length) * 8 ≤ 140737488355328; omega⟩, ?_⟩
 conv => whnf
 refine ⟨⟨by show 0 + (0 + (irows .i64 sa).length) ≤ (List.take 0 (List.drop 0 ([] : List (List AV))) ++ irows .i64 sa).length; simp, by show (0 + (irows .i64 sa).length + (irows .i64 sb).length) * 8 ≤ 140737488355328; omega⟩, ?_⟩
 conv => whnf
 refine ⟨by kernel_rfl, ?_⟩
 conv => whnf
 refine ⟨by show 0 + (0 + (irows .i64 sa).length + (irows .i64 sb).length) ≤ (List.take (0 + (irows .i64 sa).length) (List.drop 0 (List.take 0 (List.drop 0 ([] : List (List AV))) ++ irows .i64 sa)) ++ irows .i64 sb).length; simp, _, hR, ?_⟩
 conv => whnf
 first | refine nTq (by omega) ?_ | refine nFq (by omega) ?_
 repeat ((conv => whnf); (first | refine ⟨_, ‹_›, ?_⟩ | refine ⟨nbq rfl, _, ‹_›, ?_⟩ | refine ⟨by kernel_rfl, ?_⟩ | exact rfl | exact ⟨nbq rfl, rfl⟩ | refine ⟨by decide, ?_⟩))
set_option maxRecDepth 20000 in
theorem ROuter_good (c most : Int) (hc : isTwo c) (hm : most ≤ 200) (sa sb : List Int) (ca cb : Bool) (ta tb : List Int) (qa qb : List Rat) (hQa : ∀ q ∈ qa, Sz q 20) (hQb : ∀ q ∈ qb, Sz q 20)
  (va : vS sa) (vb : vS sb) (ka : kinds sa ca ta.length qa.length) (kb : kinds sb cb tb.length qb.length) (hr : roomE (sa ++ sb) = 0) (n5 : pr sa * pr sb ≤ 500) :
  AC Tryz.prog 29 [.val (.int .i32 c), PA sa ca ta qa, PA sb cb tb qb, .val (.int .i64 most)] (.pure (resP (sa ++ sb) (firstE (outP c most ca cb ta tb qa qb (pr sb) (pr sa * pr sb))) ((outP c most ca cb ta tb qa qb (pr sb) (pr sa * pr sb)).map (·.1)))) := by
 obtain ⟨k1, k2⟩ := kinds_c va ka
 obtain ⟨k3, k4⟩ := kinds_c vb kb
 have pa4 := (vS_pr va).2
 have pb4 := (vS_pr vb).2
 obtain ⟨la, hla⟩ : ∃ la, la = pr sa := ⟨_, rfl⟩
 obtain ⟨lb, hlb⟩ : ∃ lb, lb = pr sb := ⟨_, rfl⟩
 rw [← hla] at k1 k2 pa4
 rw [← hlb] at k3 k4 pb4
 rw [← hla, ← hlb] at n5 ⊢
 obtain ⟨n, hn⟩ : ∃ n, n = la * lb := ⟨_, rfl⟩
 rw [← hn] at n5 ⊢
 have ltb : tb.length + qb.length = lb := by
  cases cb
  ·have := k4 rfl; omega
  ·have := k3 rfl; omega
 have lta : ta.length + qa.length = la := by
  cases ca
  ·have := k2 rfl; omega
  ·have := k1 rfl; omega
 have hH := SHas_ok c
 rw [decide_eq_true hc] at hH
 have lsa := irows_len .i64 sa
 have lsb := irows_len .i64 sb
 have h1 := va.1
 have h2 := vb.1
 have hR := roomR_ok (sa ++ sb) (by rw [List.length_append]; omega)
 rw [hr] at hR
 have hLa := RLen_ok sa ca ta qa (by omega) (by omega)
 have hLb := RLen_ok sb cb tb qb (by omega) (by omega)
 rw [lta] at hLa
 rw [ltb] at hLb
 obtain ⟨F, hF⟩ : ∃ F, F = outP c most ca cb ta tb qa qb lb n := ⟨_, rfl⟩
 have lF : F.length = n := by rw [hF]; unfold outP; rw [List.length_map, List.length_range]
 have hFi : ∀ i k, i < la → k < lb → F[i * lb + k]? = some (pairE c most (elA ca ta qa i) (elA cb tb qb k)) := fun i k hi hk => by
  have hlt : i * lb + k < n := by
   have : (i + 1) * lb ≤ la * lb := Nat.mul_le_mul_right _ hi
   rw [Nat.add_mul, Nat.one_mul] at this
   omega
  have d1 : (i * lb + k) / lb = i := by rw [Nat.mul_comm, Nat.mul_add_div (by omega), Nat.div_eq_of_lt hk, Nat.add_zero]
  have d2 : (i * lb + k) % lb = k := by rw [Nat.mul_comm, Nat.mul_add_mod, Nat.mod_eq_of_lt hk]
  rw [hF]
  unfold outP
  rw [List.getElem?_map, List.getElem?_range hlt]
  show some (pairE c most (elA ca ta qa ((i * lb + k) / lb)) (elA cb tb qb ((i * lb + k) % lb))) = _
  rw [d1, d2]
 rw [← hF]
 obtain ⟨E, hE⟩ : ∃ E, E = firstE F := ⟨_, rfl⟩
 obtain ⟨V, hV⟩ : ∃ V, V = F.map (·.1) := ⟨_, rfl⟩
 have lV : V.length = n := by rw [hV, List.length_map, lF]
 rw [← hE, ← hV]
 have hOne : ∀ i k, i < la → k < lb → AC Tryz.prog 78 [.val (.int .i32 c), PAe ca (getT ta (i : Int)) (getQ qa (i : Int)), PAe cb (getT tb (k : Int)) (getQ qb (k : Int)), .val (.int .i64 most)] (.pure (resP [] (pairE c most (elA ca ta qa i) (elA cb tb qb k)).2 [(pairE c most (elA ca ta qa i) (elA cb tb qb k)).1])) := fun i k hi hk => by
  have sz : ∀ (l : List Rat), (∀ q ∈ l, Sz q 20) → ∀ j : Int, Sz (getQ l j) 20 := fun l hl j => by
   unfold getQ
   split
   ·exact getD_sz (by decide) hl _
   ·exact Sz_zero.mono (by decide)
  have h := two_one c most hm ca cb (getT ta (i : Int)) (getT tb (k : Int)) (getQ qa (i : Int)) (getQ qb (k : Int)) (sz qa hQa _) (sz qb hQb _) hc
  have e : pairV c ca cb (getT ta (i : Int)) (getT tb (k : Int)) (getQ qa (i : Int)) (getQ qb (k : Int)) most = pairE c most (elA ca ta qa i) (elA cb tb qb k) := by
   rw [getQ_nat, getQ_nat]
   cases ca
   ·cases cb
    ·rfl
    ·rfl
   ·cases cb
    ·rfl
    ·rw [getT_nat _ (by have := (k1 rfl).1; omega), getT_nat _ (by have := (k3 rfl).1; omega)]; rfl
  rw [e] at h
  exact h
 have hAa := fun i : Nat => alone_ok sa ca ta qa i (by omega) (by omega) (fun h => List.length_eq_zero_iff.1 (k1 h).2) (fun h => List.length_eq_zero_iff.1 (k2 h).2)
 have hAb := fun k : Nat => alone_ok sb cb tb qb k (by omega) (by omega) (fun h => List.length_eq_zero_iff.1 (k3 h).2) (fun h => List.length_eq_zero_iff.1 (k4 h).2)
 obtain ⟨r', hle, hno, e1, e2⟩ : ∃ r', AVle r' (resP (sa ++ sb) E V) ∧ NoId r' ∧ (E = 0 → r' = .tup [.agg [.sl 1 (irows .i64 (sa ++ sb)) false, .val (.bool false), .sl 0 [] true, .sl 3 (V.map rowN) false], .val (.int .i64 0)]) ∧ (E ≠ 0 → r' = .tup [PZ, .val (.int .i64 E)]) := by
  unfold resP
  by_cases h : E = 0
  ·rw [if_pos h]
   exact ⟨_, .tup2 (le_agg4 (.refl _) (.refl _) (le_nil 1) (.refl _)) (.refl _), .tup _ (noid2 (.agg _ (noidF (noid_sl _ _ _) (.val _) (.sl _ _ _ (fun r hr => nomatch hr)) (slN_noid _))) (.val _)), fun _ => rfl, fun h' => absurd h h'⟩
  ·rw [if_neg h]
   exact ⟨_, .tup2 PZ_le (.refl _), .tup _ (noid2 PZ_noid (.val _)), fun h' => absurd h' h, fun _ => rfl⟩
 refine AC.le_res (?_ : AC Tryz.prog 29 _ (.pure r')) hle (resP_noid _ _ _)
 rw [← cat2_key] at hR
 clear hF
 refine AC.of_sw TTok Tryz.func29 rfl (enter_of Tryz.func29 (by kernel_rfl) (by kernel_rfl)) (noidF (.val _) (PA_noid _ _ _ _) (PA_noid _ _ _ _) (.val _)) hno (nbq rfl) ?_
 unfold PA PZ at *
 refine SW.seqA TTok ?_
 conv => whnf
 refine SW.seqA TTok ?_
 conv => whnf
 refine ⟨_, hH, ?_⟩
 conv => whnf
 refine SW.seqA TTok ?_
 conv => whnf
 refine ⟨⟨Nat.le_refl _, by show (0 + (irows .i64 sa).length) * 8 ≤ 140737488355328; omega⟩, ?_⟩
 conv => whnf
 refine ⟨⟨by show 0 + (0 + (irows .i64 sa).length) ≤ (List.take 0 (List.drop 0 ([] : List (List AV))) ++ irows .i64 sa).length; simp, by show (0 + (irows .i64 sa).length + (irows .i64 sb).length) * 8 ≤ 140737488355328; omega⟩, ?_⟩
 conv => whnf
 refine ⟨by kernel_rfl, ?_⟩
 conv => whnf
 refine SW.weak (Wk.frz 10 104 0 (0 + (irows .i64 sa).length + (irows .i64 sb).length) 1 rfl rfl (by decide) (by show 0 + (0 + (irows .i64 sa).length + (irows .i64 sb).length) ≤ (List.take (0 + (irows .i64 sa).length) (List.drop 0 (List.take 0 (List.drop 0 ([] : List (List AV))) ++ irows .i64 sa)) ++ irows .i64 sb).length; simp) (by show NoId (.sl 1 (List.take (0 + (irows .i64 sa).length + (irows .i64 sb).length) (List.drop 0 (List.take (0 + (irows .i64 sa).length) (List.drop 0 (List.take 0 (List.drop 0 ([] : List (List AV))) ++ irows .i64 sa)) ++ irows .i64 sb))) false); rw [cat2_key]; exact noid_sl _ _ _)) rfl ?_
 refine axp_sound TTok _ _ _ ?_
 conv => whnf
 refine ⟨_, hR, ?_⟩
 conv => whnf
 refine SW.nilC 176 3 3 rfl rfl ?_
 refine SW.loopM TTok (fun i : Nat => [(0, .val (.int .i32 c)), (3, .val (.int .i64 most)), (5, .lp 0 0), (6, .lp 8 0), (8, .lp 16 0), (9, .val (.int .i64 0)), (12, .lp 176 0), (13, .val (.int .i64 (i : Int)))])
  (fun i => [(0, .cells 4 [[.sl 1 (irows .i64 sa) false, .val (.bool ca), .sl 1 (irows .i32 ta) false, .sl 3 (qa.map rowN) false]]), (8, .cells 4 [[.sl 1 (irows .i64 sb) false, .val (.bool cb), .sl 1 (irows .i32 tb) false, .sl 3 (qb.map rowN) false]]), (16, .cells 4 [[.sl 0 [] true, .val (.bool false), .sl 0 [] true, .sl 0 [] true]]), (176, .cells 4 [[.sl 1 (irows .i64 (sa ++ sb)) false, .val (.bool false), .sl 0 [] true, .own 200 0 (i * lb)]]), (200, .cells 3 ((V.take (i * lb)).map rowN))]) 208 71 rfl (fun i => la - i) (fun i => i ≤ la ∧ ∀ x ∈ F.take (i * lb), x.2 = 0) 0 [] ⟨Nat.zero_le _, fun x hx => by rw [Nat.zero_mul] at hx; exact nomatch hx⟩
  ⟨q2r, q2r, q2r, q2r, q2r, q2r, q2r, q2r, trivial⟩ ⟨q3r, q3r, q3r, ⟨rfl, .inr ⟨celE (by rw [Nat.zero_mul, ← cat2_key]; rfl), rfl⟩⟩, ⟨rfl, .inl ⟨celE (by rw [Nat.zero_mul]; rfl), rowsN_noid _⟩⟩, trivial⟩ rfl ?_
 intro i hJ
 have hi : i ≤ la := hJ.1
 have hz : ∀ x ∈ F.take (i * lb), x.2 = 0 := hJ.2
 clear hJ
 by_cases hlt : i < la
 ·have eI : IntKind.i64.wrap ((i : Int) + 1) = ((i + 1 : Nat) : Int) := by rw [IntWalk.i64_in _ (by omega)]; omega
  have hil : (i + 1) * lb ≤ n := by rw [hn]; exact Nat.mul_le_mul_right _ hlt
  rw [Nat.add_mul, Nat.one_mul] at hil
  conv => whnf
  refine ⟨_, hLa, ?_⟩
  conv => whnf
  first | refine oTq (by omega) ?_ | refine oFq (by omega) ?_ | refine oEq (by omega) ?_ | refine oNq (by omega) ?_
  conv => whnf
  refine SW.loopM TTok (fun k : Nat => [(0, .val (.int .i32 c)), (3, .val (.int .i64 most)), (5, .lp 0 0), (6, .lp 8 0), (8, .lp 16 0), (9, .val (.int .i64 0)), (12, .lp 176 0), (13, .val (.int .i64 (i : Int))), (14, .val (.int .i64 (k : Int)))])
   (fun k => [(0, .cells 4 [[.sl 1 (irows .i64 sa) false, .val (.bool ca), .sl 1 (irows .i32 ta) false, .sl 3 (qa.map rowN) false]]), (8, .cells 4 [[.sl 1 (irows .i64 sb) false, .val (.bool cb), .sl 1 (irows .i32 tb) false, .sl 3 (qb.map rowN) false]]), (16, .cells 4 [[.sl 0 [] true, .val (.bool false), .sl 0 [] true, .sl 0 [] true]]), (176, .cells 4 [[.sl 1 (irows .i64 (sa ++ sb)) false, .val (.bool false), .sl 0 [] true, .own 200 0 (i * lb + k)]]), (200, .cells 3 ((V.take (i * lb + k)).map rowN))]) 248 71 rfl (fun k => lb - k) (fun k => k ≤ lb ∧ ∀ x ∈ F.take (i * lb + k), x.2 = 0) 0 [] ⟨Nat.zero_le _, hz⟩
   ⟨q2r, q2r, q2r, q2r, q2r, q2r, q2r, q2r, q2r, trivial⟩ ⟨q3r, q3r, q3r, q3r, ⟨rfl, .inl ⟨rfl, rowsN_noid _⟩⟩, trivial⟩ rfl ?_
  intro k hJ
  have hk : k ≤ lb := hJ.1
  have hz2 : ∀ x ∈ F.take (i * lb + k), x.2 = 0 := hJ.2
  clear hJ
  have lr : ((V.take (i * lb + k)).map rowN).length = i * lb + k := by rw [List.length_map, List.length_take]; omega
  by_cases hkt : k < lb
  ·have eK : IntKind.i64.wrap ((k : Int) + 1) = ((k + 1 : Nat) : Int) := by rw [IntWalk.i64_in _ (by omega)]; omega
   have ha := hAa i
   have hb := hAb k
   have h78 := hOne i k hlt hkt
   have hFk := hFi i k hlt hkt
   have hrF : i * lb + k < F.length := by omega
   rw [List.getElem?_eq_getElem hrF] at hFk
   have hFk := Option.some.inj hFk
   rw [← hFk] at h78
   obtain ⟨z, hzz⟩ : ∃ z, z = F[i * lb + k] := ⟨_, rfl⟩
   rw [← hzz] at h78
   have hVk : V[i * lb + k]'(by omega) = z.1 := by subst hV; rw [List.getElem_map, hzz]
   have hsn : (V.take (i * lb + k)).map rowN ++ [rowN z.1] = (V.take (i * lb + (k + 1))).map rowN := by
    rw [show i * lb + (k + 1) = i * lb + k + 1 by omega, take_snoc (show i * lb + k < V.length by omega), hVk, List.map_append]; rfl
   have htk : List.take (i * lb + k) (List.drop 0 ((V.take (i * lb + k)).map rowN)) = (V.take (i * lb + k)).map rowN := by rw [List.drop_zero, List.take_of_length_le (by omega)]
   unfold PAe PA at ha hb h78
   unfold resP PA at h78
   by_cases he : z.2 = 0
   ·rw [if_pos he] at h78
    conv => whnf
    refine ⟨_, hLb, ?_⟩
    conv => whnf
    first | refine oTq (by omega) ?_ | refine oFq (by omega) ?_ | refine oEq (by omega) ?_ | refine oNq (by omega) ?_
    conv => whnf
    refine ⟨_, ha, ?_⟩
    conv => whnf
    refine ⟨_, hb, ?_⟩
    conv => whnf
    refine ⟨_, h78, ?_⟩
    conv => whnf
    refine ⟨by kernel_rfl, ?_⟩
    conv => whnf
    refine ⟨⟨by show 0 + (i * lb + k) ≤ _; omega, by show (i * lb + k + 1) * 40 ≤ 140737488355328; omega⟩, ?_⟩
    conv => whnf
    refine ⟨k + 1, [(200, 448)], (by show lb - (k + 1) < lb - k; omega), ⟨hkt, fun x hx => ?_⟩, ⟨q2r, q2r, q2r, q2r, q2r, q2r, q2r, q2r, ⟨valI eK, rfl⟩, trivial⟩, ⟨q3r, q3r, q3r, q3r, ⟨rfl, .inl ⟨celE ?_, rowsN_noid _⟩⟩, trivial⟩, rfl⟩
    ·rw [show i * lb + (k + 1) = i * lb + k + 1 by omega, take_snoc hrF] at hx
     rcases List.mem_append.1 hx with hx | hx
     ·exact hz2 x hx
     ·rw [List.mem_singleton.1 hx, ← hzz]; exact he
    ·rw [← hsn]
     show List.take (i * lb + k) (List.drop 0 ((V.take (i * lb + k)).map rowN)) ++ _ = _
     rw [htk]
     rfl
   ·rw [if_neg he] at h78
    have hEe : E = z.2 := by
     rw [hE, firstE_at hrF hz2 (by rw [← hzz]; exact he), ← hzz]
    rw [e2 (by rw [hEe]; exact he), hEe]
    conv => whnf
    refine ⟨_, hLb, ?_⟩
    conv => whnf
    first | refine oTq (by omega) ?_ | refine oFq (by omega) ?_ | refine oEq (by omega) ?_ | refine oNq (by omega) ?_
    conv => whnf
    refine ⟨_, ha, ?_⟩
    conv => whnf
    refine ⟨_, hb, ?_⟩
    conv => whnf
    refine ⟨_, h78, ?_⟩
    conv => whnf
    refine ⟨by kernel_rfl, ?_⟩
    conv => whnf
    first | refine nTq (by omega) ?_ | refine nFq (by omega) ?_
    repeat ((conv => whnf); (first | refine ⟨_, ‹_›, ?_⟩ | refine ⟨nbq rfl, _, ‹_›, ?_⟩ | refine ⟨by kernel_rfl, ?_⟩ | exact rfl | exact ⟨nbq rfl, rfl⟩ | refine ⟨by decide, ?_⟩))
  ·have hke : k = lb := by omega
   conv => whnf
   refine ⟨_, hLb, ?_⟩
   conv => whnf
   first | refine oTq (by omega) ?_ | refine oFq (by omega) ?_ | refine oEq (by omega) ?_ | refine oNq (by omega) ?_
   conv => whnf
   exact ⟨i + 1, [], (by show la - (i + 1) < la - i; omega), ⟨hlt, by rw [hke] at hz2; rw [Nat.add_mul, Nat.one_mul]; exact hz2⟩, ⟨q2r, q2r, q2r, q2r, q2r, q2r, q2r, ⟨valI eI, rfl⟩, trivial⟩, ⟨q3r, q3r, q3r, ⟨rfl, .inr ⟨celE (by rw [hke, Nat.add_mul, Nat.one_mul]; rfl), rfl⟩⟩, ⟨rfl, .inl ⟨celE (by rw [hke, Nat.add_mul, Nat.one_mul]), rowsN_noid _⟩⟩, trivial⟩, rfl⟩
 ·have hie : i = la := by omega
  have hil : i * lb = n := by rw [hie]; exact hn.symm
  have hE0 : E = 0 := by
   rw [hE]
   refine firstE_zero (fun x hx => hz x ?_)
   rw [List.take_of_length_le (by omega)]
   exact hx
  have eV : V.take (i * lb) = V := List.take_of_length_le (by omega)
  rw [e1 hE0, eV, hil]
  have lV' : (V.map rowN).length = n := by rw [List.length_map]; exact lV
  conv => whnf
  refine ⟨_, hLa, ?_⟩
  conv => whnf
  first | refine oTq (by omega) ?_ | refine oFq (by omega) ?_ | refine oEq (by omega) ?_ | refine oNq (by omega) ?_
  conv => whnf
  refine ⟨by show 0 + n ≤ _; omega, ?_⟩
  show AV.tup [AV.agg [_, _, _, AV.sl 3 (List.take n (List.drop 0 (V.map rowN))) false], _] = _
  rw [List.drop_zero, List.take_of_length_le (by omega)]
  rfl
end
section
section
variable (n : Nat) (na : List (Option (Rat × Nat)))
theorem rows_list (h : n ≤ 4000) : AC Tryz.prog 62 [AA [(n : Int)] false [] na true] (.pure (.tup [.val (.int .i64 1), .val (.int .i64 (n : Int)), .sl 1 (irows .i64 []) false])) := by
 have v1 := (vS_single n (by omega)).1
 have hS := Shape_ok [(n : Int)] false [] na (by show 1 ≤ 1000000; omega)
 have hSp := Split_ok [(n : Int)] 0 (by show 0 < 1; omega) v1
 have hSp : AC Tryz.prog 109 [.sl 1 (irows .i64 [(n : Int)]) false, .val (.int .i64 0)] (.pure (.tup [.val (.int .i64 1), .val (.int .i64 (n : Int)), .val (.int .i64 1), .val (.bool true)])) := hSp
 refine AC.of_body TTok Tryz.func62 rfl (enter_of Tryz.func62 (by kernel_rfl) (by kernel_rfl)) (noid1 (AA_noid _ _ _ _ _)) (.tup _ (noid3 (.val _) (.val _) (noid_sl _ _ _))) (nbq rfl) ?_
 unfold AA at *
 have l1 : (irows .i64 [(n : Int)]).length = 1 := rfl
 conv => whnf
 refine ⟨_, hS, ?_⟩
 conv => whnf
 refine ⟨_, hSp, ?_⟩
 conv => whnf
 refine ⟨by rw [l1]; decide, ?_⟩
 repeat ((conv => whnf); (first | refine ⟨_, ‹_›, ?_⟩ | refine ⟨nbq rfl, _, ‹_›, ?_⟩ | refine ⟨by kernel_rfl, ?_⟩ | exact rfl | exact ⟨nbq rfl, rfl⟩ | refine ⟨by decide, ?_⟩))
theorem columns_list (h : n ≤ 4000) : AC Tryz.prog 63 [AA [(n : Int)] false [] na true] (.pure (.tup [.val (.int .i64 1), .val (.int .i64 (n : Int)), .sl 1 (irows .i64 []) false])) := by
 have v1 := (vS_single n (by omega)).1
 have hS := Shape_ok [(n : Int)] false [] na (by show 1 ≤ 1000000; omega)
 have hSp := Split_ok [(n : Int)] 0 (by show 0 < 1; omega) v1
 have hSp : AC Tryz.prog 109 [.sl 1 (irows .i64 [(n : Int)]) false, .val (.int .i64 0)] (.pure (.tup [.val (.int .i64 1), .val (.int .i64 (n : Int)), .val (.int .i64 1), .val (.bool true)])) := hSp
 refine AC.of_body TTok Tryz.func63 rfl (enter_of Tryz.func63 (by kernel_rfl) (by kernel_rfl)) (noid1 (AA_noid _ _ _ _ _)) (.tup _ (noid3 (.val _) (.val _) (noid_sl _ _ _))) (nbq rfl) ?_
 unfold AA at *
 have l1 : (irows .i64 [(n : Int)]).length = 1 := rfl
 conv => whnf
 refine ⟨_, hS, ?_⟩
 conv => whnf
 refine ⟨_, hSp, ?_⟩
 conv => whnf
 refine ⟨by rw [l1]; decide, ?_⟩
 repeat ((conv => whnf); (first | refine ⟨_, ‹_›, ?_⟩ | refine ⟨nbq rfl, _, ‹_›, ?_⟩ | refine ⟨by kernel_rfl, ?_⟩ | exact rfl | exact ⟨nbq rfl, rfl⟩ | refine ⟨by decide, ?_⟩))
end
theorem Rats_zero : AC Tryz.prog 114 [AZ] (.fresh 3 []) := by
 have h : AC Tryz.prog 114 [AA [] false [] [] false] (.fresh 3 []) := by
  have hC := CloneQ_freshA [] (by decide)
  refine AC.of_body TTok Tryz.func114 rfl (enter_of Tryz.func114 (by kernel_rfl) (by kernel_rfl)) (noid1 (AA_noid _ _ _ _ _)) (fun r hr => nomatch hr) (nbq rfl) ?_
  unfold AA
  conv => whnf
  refine ⟨_, hC, ?_⟩
  conv => whnf
  exact ⟨rfl, Nat.le_refl _, rfl⟩
 exact AC.le_args h rfl (fun i x y hx hy => by
  rcases i with _ | i
  ·simp at hx hy; subst hx; subst hy; exact AZ_le
  ·simp at hx) (noid1 AZ_noid)
theorem ALen_zero : AC Tryz.prog 57 [AZ] (.pure (.val (.int .i64 0))) :=
 AC.le_args (ALen_ok [] false [] [] false (by decide) (by decide) : AC Tryz.prog 57 [AA [] false [] [] false] (.pure (.val (.int .i64 0)))) rfl (fun i x y hx hy => by
  rcases i with _ | i
  ·simp at hx hy; subst hx; subst hy; exact AZ_le
  ·simp at hx) (noid1 AZ_noid)
theorem more_zero (o : Option (Rat × Nat)) : AC Tryz.prog 68 [AZ, AA [] false [] [o] true] (.pure (AA [1] false [] [o] true)) := by
 have hL := ALen_zero
 have hF := Rats_zero
 have hR : AC Tryz.prog 15 [AA [] false [] [o] true, .val (.int .i64 0)] (.pure (.agg (rowX o))) := RatI_ok [] false [] [o] true 0 (by show 0 < 1; omega) (by show 1 ≤ 1000000; omega)
 have hN : AC Tryz.prog 14 [.sl 1 (irows .i64 [1]) false, .sl 3 ([o].map rowX) false] (.pure (.tup [AA [1] false [] [o] true, .val (.bool true)])) := Nums_ok [1] [o] (by decide) rfl (by show 1 ≤ 1000000; omega)
 obtain ⟨k, l1, l2, z, b, hrow⟩ := rowX_eq o
 have ho : [o].map rowX = [[.sl k l1 z, .val (.bool b), .sl k l2 z]] := by show [rowX o] = _; rw [hrow]
 rw [hrow] at hR
 have hN' : AC Tryz.prog 14 [.sl 1 (irows .i64 [1]) false, .sl 3 [[.sl k l1 z, .val (.bool b), .sl k l2 z]] false] (.pure (.tup [AA [1] false [] [o] true, .val (.bool true)])) := by rw [← ho]; exact hN
 refine AC.of_body TTok Tryz.func68 rfl (enter_of Tryz.func68 (by kernel_rfl) (by kernel_rfl)) (noid2 AZ_noid (AA_noid _ _ _ _ _)) (AA_noid _ _ _ _ _) (nbq rfl) ?_
 unfold AA AZ at *
 conv => whnf
 refine ⟨_, hL, ?_⟩
 conv => whnf
 refine ⟨_, hF, ?_⟩
 conv => whnf
 refine ⟨_, hR, ?_⟩
 conv => whnf
 refine ⟨⟨Nat.le_refl _, by show (0 + 1) * 56 ≤ 140737488355328; omega, Nat.le_refl _⟩, ?_⟩
 conv => whnf
 refine ⟨⟨Nat.le_refl _, Nat.le_refl _⟩, _, hN', ?_⟩
 conv => whnf
 refine ⟨by kernel_rfl, ?_⟩
 repeat ((conv => whnf); (first | refine ⟨_, ‹_›, ?_⟩ | refine ⟨nbq rfl, _, ‹_›, ?_⟩ | refine ⟨by kernel_rfl, ?_⟩ | exact rfl | exact ⟨nbq rfl, rfl⟩ | refine ⟨by decide, ?_⟩))
theorem Inner_vec (f g most : Int) (hf : isTwo f) (hg : isTwo g) (n : Nat) (h0 : 0 < n) (h4 : n ≤ 500) (na nb xs : List (Option (Rat × Nat))) (o : Option (Rat × Nat)) (la : na.length = n) (lb : nb.length = n)
  (hT : AC Tryz.prog 66 [.val (.int .i32 g), AA [(n : Int)] false [] na true, AA [(n : Int)] false [] nb true, .val (.int .i64 most)] (.pure (.tup [AA [(n : Int)] false [] xs true, .val (.int .i64 0)])))
  (hR : AC Tryz.prog 12 [.val (.int .i32 f), AA [(n : Int)] false [] xs true, .val (.int .i64 (-1)), .val (.int .i64 most)] (.pure (.tup [AA [] false [] [o] true, .val (.int .i64 0)]))) :
  AC Tryz.prog 23 [.val (.int .i32 f), .val (.int .i32 g), AA [(n : Int)] false [] na true, AA [(n : Int)] false [] nb true, .val (.int .i64 most)] (.pure (.tup [AA [] false [] [o] true, .val (.int .i64 0)])) := by
 have hHf := Has_ok f
 have hHg := Has_ok g
 rw [decide_eq_true hf] at hHf
 rw [decide_eq_true hg] at hHg
 have hRo := rows_list n na (by omega)
 have hCo := columns_list n nb (by omega)
 have hJ := join2 [] [] (by decide) (by decide)
 have hJ : AC Tryz.prog 64 [.sl 1 [[.sl 1 (irows .i64 []) false], [.sl 1 (irows .i64 []) false]] false] (.pure (.sl 1 (irows .i64 []) false)) := hJ
 have hRm : AC Tryz.prog 65 [.sl 1 (irows .i64 []) false] (.pure (.tup [.val (.int .i64 1), .val (.int .i64 0)])) := room_ok [] (by decide)
 have hM := more_zero o
 have hSh := shaped_ok [1] [o] [] (by decide) rfl
 obtain ⟨Y, hY⟩ : ∃ Y : List Int, Y = (List.range n).map fun i : Nat => (i : Int) := ⟨_, rfl⟩
 have lY : Y.length = n := by rw [hY, List.length_map, List.length_range]
 have hYi : ∀ i, i < n → Y[i]? = some (i : Int) := fun i h => by rw [hY, List.getElem?_map, List.getElem?_range h]; rfl
 have hYx : ∀ l : List (Option (Rat × Nat)), l.length = n → Y.map (getX l) = l := fun l hl => by
  rw [hY, List.map_map]
  refine List.ext_getElem? fun i => ?_
  rw [List.getElem?_map]
  by_cases hi : i < n
  ·rw [List.getElem?_range hi]
   show some (getX l (i : Int)) = _
   rw [getX_in (by omega), List.getElem?_eq_getElem (by omega)]
  ·rw [List.getElem?_eq_none (by rw [List.length_range]; omega), List.getElem?_eq_none (by omega)]
   rfl
 have hSa := spread_ok [(n : Int)] false [] na Y (by omega) (by decide) (by omega)
 have hSb := spread_ok [(n : Int)] false [] nb Y (by omega) (by decide) (by omega)
 have hSa : AC Tryz.prog 67 [AA [(n : Int)] false [] na true, .sl 1 (irows .i64 Y) false] (.pure (AA [(Y.length : Int)] false [] (Y.map (getX na)) true)) := hSa
 have hSb : AC Tryz.prog 67 [AA [(n : Int)] false [] nb true, .sl 1 (irows .i64 Y) false] (.pure (AA [(Y.length : Int)] false [] (Y.map (getX nb)) true)) := hSb
 rw [hYx na la, lY] at hSa
 rw [hYx nb lb, lY] at hSb
 have lYr := irows_len .i64 Y
 have eY : irows .i64 Y = List.take n (List.drop 0 (irows .i64 Y)) := by rw [List.drop_zero, List.take_of_length_le (by omega)]
 rw [eY] at hSa hSb
 clear hY eY
 have lz : ∀ k, (List.replicate k ([.val (.int .i64 0)] : List AV)).length = k := fun k => List.length_replicate
 refine AC.of_body TTok Tryz.func23 rfl (enter_of Tryz.func23 (by kernel_rfl) (by kernel_rfl)) (noid5 (.val _) (.val _) (AA_noid _ _ _ _ _) (AA_noid _ _ _ _ _) (.val _)) (.tup _ (noid2 (AA_noid _ _ _ _ _) (.val _))) (nbq rfl) ?_
 unfold AA AZ at *
 conv => whnf
 refine ⟨_, hHf, ?_⟩
 conv => whnf
 refine ⟨_, hHg, ?_⟩
 conv => whnf
 refine ⟨_, hRo, ?_⟩
 conv => whnf
 refine ⟨_, hCo, ?_⟩
 conv => whnf
 first | refine nTq (by omega) ?_ | refine nFq (by omega) ?_
 conv => whnf
 first | refine oTq (by omega) ?_ | refine oFq (by omega) ?_ | refine oEq (by omega) ?_ | refine oNq (by omega) ?_
 conv => whnf
 first | refine oTq (by omega) ?_ | refine oFq (by omega) ?_ | refine oEq (by omega) ?_ | refine oNq (by omega) ?_
 conv => whnf
 refine ⟨(nbq rfl), _, hJ, ?_⟩
 conv => whnf
 refine ⟨_, hRm, ?_⟩
 conv => whnf
 refine SW.loopM TTok (fun i : Nat => [(0, .val (.int .i32 f)), (1, .val (.int .i32 g)), (4, .val (.int .i64 most)), (7, .lp 0 0), (8, .lp 8 0), (10, .lp 16 0), (11, .val (.int .i64 0)), (12, .val (.int .i64 1)), (13, .val (.int .i64 (n : Int))), (15, .val (.int .i64 1)), (16, .val (.int .i64 (n : Int))), (18, .val (.int .i64 (n : Int))), (19, .sl 1 (irows .i64 []) false), (20, .val (.int .i64 1)), (22, .lp 520 0), (84, .val (.int .i64 1)), (85, .val (.int .i64 (i : Int)))])
  (fun i => [(0, .cells 5 [[.sl 1 (irows .i64 [(n : Int)]) false, .val (.bool false), .sl 1 (irows .i32 []) false, .sl 3 (na.map rowX) false, .val (.bool true)]]), (8, .cells 5 [[.sl 1 (irows .i64 [(n : Int)]) false, .val (.bool false), .sl 1 (irows .i32 []) false, .sl 3 (nb.map rowX) false, .val (.bool true)]]), (16, .cells 5 [[.sl 0 [] true, .val (.bool false), .sl 0 [] true, .sl 0 [] true, .val (.bool false)]]), (520, .cells 5 [bif Nat.beq i 0 then [.sl 0 [] true, .val (.bool false), .sl 0 [] true, .sl 0 [] true, .val (.bool false)] else [.sl 1 (irows .i64 [1]) false, .val (.bool false), .sl 1 (irows .i32 []) false, .sl 3 ([o].map rowX) false, .val (.bool true)]])]) 544 166 rfl (fun i => 1 - i) (fun i => i ≤ 1) 0 [] (Nat.zero_le _)
  ⟨q2r, q2r, q2r, q2r, q2r, q2r, q2r, q2r, q2r, q2r, q2r, ⟨valI (by show (if (n : Int) > (n : Int) then (n : Int) else (n : Int)) = _; split <;> rfl), rfl⟩, q2r, q2r, q2r, q2r, q2r, trivial⟩ ⟨q3r, q3r, q3r, q3r, trivial⟩ rfl ?_
 intro i hJ
 have hi : i ≤ 1 := hJ
 clear hJ
 have hi01 : i = 0 ∨ i = 1 := by omega
 rcases hi01 with rfl | rfl
 ·conv => whnf
  refine ⟨⟨by omega, by omega, by show ((n : Nat) : Int) * ((8 : Nat) : Int) ≤ 140737488355328; omega⟩, ?_⟩
  conv => whnf
  refine ⟨⟨by omega, by omega, by show ((n : Nat) : Int) * ((8 : Nat) : Int) ≤ 140737488355328; omega⟩, ?_⟩
  conv => whnf
  refine ⟨by kernel_rfl, ?_⟩
  conv => whnf
  refine SW.loopM TTok (fun k : Nat => [(0, .val (.int .i32 f)), (1, .val (.int .i32 g)), (4, .val (.int .i64 most)), (7, .lp 0 0), (8, .lp 8 0), (10, .lp 16 0), (11, .val (.int .i64 0)), (12, .val (.int .i64 1)), (13, .val (.int .i64 (n : Int))), (15, .val (.int .i64 1)), (16, .val (.int .i64 (n : Int))), (18, .val (.int .i64 (n : Int))), (19, .sl 1 (irows .i64 []) false), (20, .val (.int .i64 1)), (22, .lp 520 0), (84, .val (.int .i64 1)), (23, .val (.int .i64 0)), (24, .own 576 0 n), (25, .own 592 0 n), (85, .val (.int .i64 0)), (92, .val (.int .i64 (n : Int))), (93, .val (.int .i64 (k : Int)))])
   (fun k => [(0, .cells 5 [[.sl 1 (irows .i64 [(n : Int)]) false, .val (.bool false), .sl 1 (irows .i32 []) false, .sl 3 (na.map rowX) false, .val (.bool true)]]), (8, .cells 5 [[.sl 1 (irows .i64 [(n : Int)]) false, .val (.bool false), .sl 1 (irows .i32 []) false, .sl 3 (nb.map rowX) false, .val (.bool true)]]), (16, .cells 5 [[.sl 0 [] true, .val (.bool false), .sl 0 [] true, .sl 0 [] true, .val (.bool false)]]), (520, .cells 5 [[.sl 0 [] true, .val (.bool false), .sl 0 [] true, .sl 0 [] true, .val (.bool false)]]), (576, .cells 1 (irows .i64 (Y.take k) ++ List.replicate (n - k) ([.val (.int .i64 0)] : List AV))), (592, .cells 1 (irows .i64 (Y.take k) ++ List.replicate (n - k) ([.val (.int .i64 0)] : List AV)))]) 632 166 rfl (fun k => n - k) (fun k => k ≤ n) 0 [] (Nat.zero_le _)
   ⟨q2r, q2r, q2r, q2r, q2r, q2r, q2r, q2r, q2r, q2r, q2r, q2r, q2r, q2r, q2r, q2r, q2r, q2r, q2r, q2r, q2r, q2r, trivial⟩ ⟨q3r, q3r, q3r, q3r, ⟨rfl, .inl ⟨rfl, nz_noid _ _⟩⟩, ⟨rfl, .inl ⟨rfl, nz_noid _ _⟩⟩, trivial⟩ rfl ?_
  intro k hJ
  have hk : k ≤ n := hJ
  clear hJ
  have ltk : (irows .i64 (Y.take k)).length = k := by rw [irows_len, List.length_take]; omega
  have lr : (irows .i64 (Y.take k) ++ List.replicate (n - k) ([.val (.int .i64 0)] : List AV)).length = n := by rw [List.length_append, ltk, lz]; omega
  by_cases hkt : k < n
  ·have eK : IntKind.i64.wrap ((k : Int) + 1) = ((k + 1 : Nat) : Int) := by rw [IntWalk.i64_in _ (by omega)]; omega
   have hs := fill_set Y n k _ hkt lY (hYi k hkt)
   have eM : (if IntKind.i64.wrap ((n : Int) - 1) < (k : Int) then IntKind.i64.wrap ((n : Int) - 1) else (k : Int)) = (k : Int) := if_neg (by rw [IntWalk.i64_in _ (by omega)]; omega)
   have wk : IntKind.i64.wrap (k : Int) = (k : Int) := wrap_nat' _ (by omega)
   conv => whnf
   first | refine oTq (by omega) ?_ | refine oFq (by omega) ?_ | refine oEq (by omega) ?_ | refine oNq (by omega) ?_
   conv => whnf
   refine ⟨by decide, ?_⟩
   conv => whnf
   refine ⟨by decide, ?_⟩
   conv => whnf
   refine ⟨by omega, ?_⟩
   conv => whnf
   refine ⟨by rw [Nat.zero_add, Int.toNat_natCast]; omega, ?_⟩
   conv => whnf
   refine ⟨by omega, ?_⟩
   conv => whnf
   refine ⟨by rw [Nat.zero_add, Int.toNat_natCast]; omega, ?_⟩
   conv => whnf
   refine ⟨by kernel_rfl, ?_⟩
   conv => whnf
   refine ⟨k + 1, [], (by show n - (k + 1) < n - k; omega), hkt, ⟨q2r, q2r, q2r, q2r, q2r, q2r, q2r, q2r, q2r, q2r, q2r, q2r, q2r, q2r, q2r, q2r, q2r, q2r, q2r, q2r, q2r, ⟨valI eK, rfl⟩, trivial⟩, ⟨q3r, q3r, q3r, q3r, ⟨rfl, .inl ⟨celE ?_, nz_noid _ _⟩⟩, ⟨rfl, .inl ⟨celE ?_, nz_noid _ _⟩⟩, trivial⟩, rfl⟩
   ·rw [← hs]
    show List.set _ (0 + (k : Int).toNat) [AV.val (.int .i64 (IntKind.i64.wrap (IntKind.i64.wrap (IntKind.i64.wrap (((0 : Int)).tdiv 1) * (n : Int)) + (if IntKind.i64.wrap ((n : Int) - 1) < (k : Int) then IntKind.i64.wrap ((n : Int) - 1) else (k : Int)))))] = _
    rw [Nat.zero_add, Int.toNat_natCast, eM, show IntKind.i64.wrap (((0 : Int)).tdiv 1) = 0 from rfl, Int.zero_mul, show IntKind.i64.wrap 0 = 0 from rfl, Int.zero_add, wk]
   ·rw [← hs]
    show List.set _ (0 + (k : Int).toNat) [AV.val (.int .i64 (IntKind.i64.wrap (IntKind.i64.wrap ((if IntKind.i64.wrap ((n : Int) - 1) < (k : Int) then IntKind.i64.wrap ((n : Int) - 1) else (k : Int)) * 1) + ((0 : Int)).tmod 1)))] = _
    rw [Nat.zero_add, Int.toNat_natCast, eM, Int.mul_one, wk, show ((0 : Int)).tmod 1 = 0 from rfl, Int.add_zero, wk]
  ·have hke : k = n := by omega
   have e3 : Y.take k = Y := List.take_of_length_le (by omega)
   rw [e3, hke, Nat.sub_self, List.replicate_zero, List.append_nil]
   conv => whnf
   first | refine oTq (by omega) ?_ | refine oFq (by omega) ?_ | refine oEq (by omega) ?_ | refine oNq (by omega) ?_
   conv => whnf
   refine ⟨by show 0 + n ≤ _; omega, _, hSa, ?_⟩
   conv => whnf
   refine ⟨by show 0 + n ≤ _; omega, _, hSb, ?_⟩
   conv => whnf
   refine ⟨_, hT, ?_⟩
   conv => whnf
   refine ⟨by kernel_rfl, ?_⟩
   conv => whnf
   refine ⟨_, hR, ?_⟩
   conv => whnf
   refine ⟨_, hM, ?_⟩
   conv => whnf
   exact ⟨1, [], (by show 1 - 1 < 1 - 0; omega), Nat.le_refl _, ⟨q2r, q2r, q2r, q2r, q2r, q2r, q2r, q2r, q2r, q2r, q2r, q2r, q2r, q2r, q2r, q2r, q2r, trivial⟩, ⟨q3r, q3r, q3r, q3r, trivial⟩, rfl⟩
 ·conv => whnf
  refine ⟨_, hSh, ?_⟩
  repeat ((conv => whnf); (first | refine ⟨_, ‹_›, ?_⟩ | refine ⟨nbq rfl, _, ‹_›, ?_⟩ | refine ⟨by kernel_rfl, ?_⟩ | exact rfl | exact ⟨nbq rfl, rfl⟩ | refine ⟨by decide, ?_⟩))
end
section
theorem shows20_ok (sh : List Int) (ch : Bool) (tx : List Int) (ns : List (Option (Rat × Nat))) (h1 : sh.length ≤ 1000) (h2 : tx.length ≤ 100000) (h3 : ns.length ≤ 100000) (ho : ∀ o ∈ ns, okX o ∧ Sz (valX o) 100000) :
  AC Tryz.prog 30 [AA sh ch tx ns true, .val (.int .i64 0), PA sh ch tx (ns.map valX), .val (.int .i64 0)] (.pure (.val (.bool true))) := by
 refine AC.of_body TTok Tryz.func30 rfl (enter_of Tryz.func30 (by kernel_rfl) (by kernel_rfl)) (noidF (AA_noid _ _ _ _ _) (.val _) (PA_noid _ _ _ _) (.val _)) (.val _) (nbq rfl) ?_
 have hP := Plain_ok sh ch tx ns h1 h2 h3 ho
 have hS := PSame_ok sh ch tx (ns.map valX) h1 h2 (by rw [List.length_map]; exact h3)
 unfold AA PA at *
 repeat ((conv => whnf); (first | refine ⟨_, ‹_›, ?_⟩ | refine ⟨nbq rfl, _, ‹_›, ?_⟩ | refine ⟨by kernel_rfl, ?_⟩ | exact rfl | exact ⟨nbq rfl, rfl⟩ | refine ⟨by decide, ?_⟩))
theorem shows20_err (e : Int) (he : e ≠ 0) (sh : List Int) (ch : Bool) (tx : List Int) (qs : List Rat) :
  AC Tryz.prog 30 [AA [] false [] [] false, .val (.int .i64 e), PA sh ch tx qs, .val (.int .i64 e)] (.pure (.val (.bool true))) := by
 refine AC.of_body TTok Tryz.func30 rfl (enter_of Tryz.func30 (by kernel_rfl) (by kernel_rfl)) (noidF (AA_noid _ _ _ _ _) (.val _) (PA_noid _ _ _ _) (.val _)) (.val _) (nbq rfl) ?_
 have hL := ALen_ok [] false [] [] false (by decide) (by decide)
 have t1 : (e != e) = false := by simp
 unfold AA PA at *
 conv => whnf
 refine cFq (t1) ?_
 conv => whnf
 first | refine nTq (by omega) ?_ | refine nFq (by omega) ?_
 repeat ((conv => whnf); (first | refine ⟨_, ‹_›, ?_⟩ | refine ⟨nbq rfl, _, ‹_›, ?_⟩ | refine ⟨by kernel_rfl, ?_⟩ | exact rfl | exact ⟨nbq rfl, rfl⟩ | refine ⟨by decide, ?_⟩))
theorem wO : outP 43 4 false false [] [] [1, 2] [10, 20] 2 4 = [(11, 0), (21, 0), (12, 0), (22, 0)] := by decide +kernel
theorem wI : (List.range 2).map (fun i => pairE 215 4 (elA false [] [1, 2] i) (elA false [] [3, 4] i)) = [(3, 0), (8, 0)] := by decide +kernel
theorem wR : foldE 43 4 ([3, 8].map numE) = (numE 11, 0) := by decide +kernel
theorem ints_ok (L : List Int) : ∀ o ∈ L.map intX, okX o := fun o ho => by
 obtain ⟨n, _, rfl⟩ := List.mem_map.1 ho
 exact (Rat.den_intCast n).symm
theorem sz4 (a b c d : Nat) (h : a < 4294967296 ∧ b < 4294967296 ∧ c < 4294967296 ∧ d < 4294967296) : ∀ q ∈ [((a : Int) : Rat), ((b : Int) : Rat), ((c : Int) : Rat), ((d : Int) : Rat)], Sz q 20 := fun q hq => by
 simp only [List.mem_cons, List.not_mem_nil, or_false] at hq
 rcases hq with rfl | rfl | rfl | rfl
 ·exact sz_natI a h.1
 ·exact sz_natI b h.2.1
 ·exact sz_natI c h.2.2.1
 ·exact sz_natI d h.2.2.2
theorem awake20_ok : AC Tryz.prog 21 [] (.pure (.val (.bool true))) := by
 have q1 : ∀ q ∈ ([1, 2] : List Rat), Sz q 20 := fun q hq => sz4 1 2 0 0 (by decide) q (by
  simp only [List.mem_cons, List.not_mem_nil, or_false] at hq ⊢
  rcases hq with rfl | rfl
  ·exact .inl rfl
  ·exact .inr (.inl rfl))
 have q2 : ∀ q ∈ ([10, 20] : List Rat), Sz q 20 := fun q hq => sz4 10 20 0 0 (by decide) q (by
  simp only [List.mem_cons, List.not_mem_nil, or_false] at hq ⊢
  rcases hq with rfl | rfl
  ·exact .inl rfl
  ·exact .inr (.inl rfl))
 have q3 : ∀ q ∈ ([3, 4] : List Rat), Sz q 20 := fun q hq => sz4 3 4 0 0 (by decide) q (by
  simp only [List.mem_cons, List.not_mem_nil, or_false] at hq ⊢
  rcases hq with rfl | rfl
  ·exact .inl rfl
  ·exact .inr (.inl rfl))
 have q4 : ∀ q ∈ ([3, 8] : List Rat), Sz q 20 := fun q hq => sz4 3 8 0 0 (by decide) q (by
  simp only [List.mem_cons, List.not_mem_nil, or_false] at hq ⊢
  rcases hq with rfl | rfl
  ·exact .inl rfl
  ·exact .inr (.inl rfl))
 obtain ⟨l, l1, l2, _, l4⟩ := Outer_good 43 4 (by unfold isTwo; decide) (by decide) [2] [2] false false [] [] ([1, 2].map intX) ([10, 20].map intX) [1, 2] [10, 20] rfl rfl (ints_ok _) (ints_ok _) q1 q2 (by decide) (by decide) ⟨rfl, rfl⟩ ⟨rfl, rfl⟩ (by unfold roomE; decide) (by decide)
 have l1 : firstE (outP 43 4 false false [] [] [1, 2] [10, 20] 2 4) = 0 → l.map valX = (outP 43 4 false false [] [] [1, 2] [10, 20] 2 4).map (·.1) := l1
 have l4 : AC Tryz.prog 24 [.val (.int .i32 43), AA [2] false [] ([1, 2].map intX) true, AA [2] false [] ([10, 20].map intX) true, .val (.int .i64 4)] (.pure (resF [2, 2] false [] l (firstE (outP 43 4 false false [] [] [1, 2] [10, 20] 2 4)))) := l4
 rw [wO] at l1 l4
 have l1 : l.map valX = [11, 21, 12, 22] := l1 rfl
 have l4 : AC Tryz.prog 24 [.val (.int .i32 43), AA [2] false [] ([1, 2].map intX) true, AA [2] false [] ([10, 20].map intX) true, .val (.int .i64 4)] (.pure (.tup [AA [2, 2] false [] l true, .val (.int .i64 0)])) := l4
 obtain ⟨x, x1, x2, _, x4⟩ := two_pick 215 4 (by unfold isTwo; decide) (by decide) false false [] [] ([1, 2].map intX) ([3, 4].map intX) [1, 2] [3, 4] rfl rfl (ints_ok _) (ints_ok _) q1 q3 2 (by decide) [0, 1] [0, 1] id id rfl rfl
  (fun i hi => by match i, hi with | 0, _ => rfl | 1, _ => rfl) (fun i hi => by match i, hi with | 0, _ => rfl | 1, _ => rfl) (fun h => Bool.noConfusion h) (fun _ => rfl) (fun h => Bool.noConfusion h) (fun _ => rfl)
 have x1 : firstE ((List.range 2).map (fun i => pairE 215 4 (elA false [] [1, 2] i) (elA false [] [3, 4] i))) = 0 → x.map valX = ((List.range 2).map fun i => pairE 215 4 (elA false [] [1, 2] i) (elA false [] [3, 4] i)).map (·.1) := x1
 have x4 : AC Tryz.prog 66 [.val (.int .i32 215), AA [2] false [] ([1, 2].map intX) true, AA [2] false [] ([3, 4].map intX) true, .val (.int .i64 4)] (.pure (resA [2] (firstE ((List.range 2).map (fun i => pairE 215 4 (elA false [] [1, 2] i) (elA false [] [3, 4] i)))) x)) := x4
 rw [wI] at x1 x4
 have x1 : x.map valX = [3, 8] := x1 rfl
 have x4 : AC Tryz.prog 66 [.val (.int .i32 215), AA [2] false [] ([1, 2].map intX) true, AA [2] false [] ([3, 4].map intX) true, .val (.int .i64 4)] (.pure (.tup [AA [2] false [] x true, .val (.int .i64 0)])) := x4
 obtain ⟨o, o1, o2, o3⟩ := Red_list 43 4 (by unfold isTwo; decide) (by decide) x [3, 8] x1 x2 q4 (-1) (by decide) (by decide) (by decide) (by rw [wR]) (fun _ h => pair_szm (by decide) h)
 rw [wR] at o2
 have o2 := numE_inj o2
 have hI := Inner_vec 43 215 4 (by unfold isTwo; decide) (by unfold isTwo; decide) 2 (by decide) (by decide) ([1, 2].map intX) ([3, 4].map intX) x o rfl rfl x4 o3
 have hI : AC Tryz.prog 23 [.val (.int .i32 43), .val (.int .i32 215), AA [2] false [] ([1, 2].map intX) true, AA [2] false [] ([3, 4].map intX) true, .val (.int .i64 4)] (.pure (.tup [AA [] false [] [o] true, .val (.int .i64 0)])) := hI
 have i1 : AC Tryz.prog 13 [.sl 1 (irows .i64 [1, 2]) false] (.pure (AA [2] false [] ([1, 2].map intX) true)) := AInts_ok [1, 2] (by decide) (fun n hn => by simp at hn; rcases hn with rfl | rfl <;> exact ⟨by decide, by decide⟩)
 have i2 : AC Tryz.prog 13 [.sl 1 (irows .i64 [10, 20]) false] (.pure (AA [2] false [] ([10, 20].map intX) true)) := AInts_ok [10, 20] (by decide) (fun n hn => by simp at hn; rcases hn with rfl | rfl <;> exact ⟨by decide, by decide⟩)
 have i3 : AC Tryz.prog 13 [.sl 1 (irows .i64 [3, 4]) false] (.pure (AA [2] false [] ([3, 4].map intX) true)) := AInts_ok [3, 4] (by decide) (fun n hn => by simp at hn; rcases hn with rfl | rfl <;> exact ⟨by decide, by decide⟩)
 have r1 : AC Tryz.prog 34 [.sl 1 (irows .i64 [11, 21, 12, 22]) false] (.pure (PA [4] false [] [11, 21, 12, 22])) := RInts_ok [11, 21, 12, 22] (by decide) (fun n hn => by simp at hn; rcases hn with rfl | rfl | rfl | rfl <;> exact ⟨by decide, by decide⟩)
 have r2 := RIntP_ok 11 (by decide)
 have ll : l.length = 4 := by have := congrArg List.length l1; rw [List.length_map] at this; exact this
 have s1 := shows20_ok [2, 2] false [] l (by decide) (by decide) (by omega) (fun p hp => ⟨l2 p hp, by
  have : valX p ∈ l.map valX := List.mem_map_of_mem hp
  rw [l1] at this
  exact (sz4 11 21 12 22 (by decide) _ this).mono (by decide)⟩)
 have s2 := shows20_ok [] false [] [o] (by decide) (by decide) (by show 1 ≤ 100000; omega) (fun p hp => by
  rw [List.mem_singleton.1 hp]
  exact ⟨o1, by rw [o2]; exact (sz_natI 11 (by decide)).mono (by decide)⟩)
 rw [l1] at s1
 rw [show [o].map valX = [((11 : Int) : Rat)] by show [valX o] = _; rw [o2]; rfl] at s2
 clear q1 q2 q3 q4 l1 l2 x1 x2 x4 o1 o2 o3 ll
 generalize ([1, 2] : List Int).map intX = w1 at *
 generalize ([10, 20] : List Int).map intX = w2 at *
 generalize ([3, 4] : List Int).map intX = w3 at *
 generalize [o] = w4 at *
 generalize [((11 : Int) : Rat)] = w5 at *
 generalize ([11, 21, 12, 22] : List Rat) = w6 at *
 refine AC.of_body TTok Tryz.func21 rfl (enter_of Tryz.func21 (by kernel_rfl) (by kernel_rfl)) (fun x hx => nomatch hx) (.val _) (nbq rfl) ?_
 unfold AA PA at *
 conv => whnf
 refine ⟨(nbq rfl), _, i1, ?_⟩
 conv => whnf
 refine ⟨(nbq rfl), _, i2, ?_⟩
 conv => whnf
 refine ⟨_, l4, ?_⟩
 conv => whnf
 refine ⟨(nbq rfl), _, i1, ?_⟩
 conv => whnf
 refine ⟨(nbq rfl), _, i3, ?_⟩
 conv => whnf
 refine ⟨_, hI, ?_⟩
 conv => whnf
 refine ⟨(nbq rfl), _, r1, ?_⟩
 conv => whnf
 refine ⟨(nbq rfl), _, s1, ?_⟩
 conv => whnf
 refine ⟨_, r2, ?_⟩
 conv => whnf
 refine ⟨_, s2, ?_⟩
 repeat ((conv => whnf); (first | refine ⟨_, ‹_›, ?_⟩ | refine ⟨nbq rfl, _, ‹_›, ?_⟩ | refine ⟨by kernel_rfl, ?_⟩ | exact rfl | exact ⟨nbq rfl, rfl⟩ | refine ⟨by decide, ?_⟩))
end
section
theorem lite20 (sa : List Int) (ca : Bool) (ta : List Int) (La : List TX) (sb : List Int) (cb : Bool) (tb : List Int) (Lb : List TX)
  (za : sa.length < 9223372036854775808 ∧ ta.length < 9223372036854775808 ∧ La.length < 9223372036854775808 ∧ GN La) (zb : sb.length < 9223372036854775808 ∧ tb.length < 9223372036854775808 ∧ Lb.length < 9223372036854775808 ∧ GN Lb) :
  ∃ r : Bool, AC Tryz.prog 28 [PB sa ca ta La, PB sb cb tb Lb] (.pure (.val (.bool r))) ∧ (r = true → ∃ qa qb, Lite sa ca ta La 40 qa ∧ Lite sb cb tb Lb 40 qb ∧ (ta.length + qa.length) * (tb.length + qb.length) ≤ 300) := by
 obtain ⟨r1, h1, p1⟩ := lite_ok sa ca ta La 40 (by decide) za
 obtain ⟨r2, h2, p2⟩ := lite_ok sb cb tb Lb 40 (by decide) zb
 have h1 : AC Tryz.prog 48 [PB sa ca ta La, .val (.int .i64 40)] (.pure (.val (.bool r1))) := h1
 have h2 : AC Tryz.prog 48 [PB sb cb tb Lb, .val (.int .i64 40)] (.pure (.val (.bool r2))) := h2
 cases r1
 ·refine ⟨false, ?_, fun h => Bool.noConfusion h⟩
  refine AC.of_body TTok Tryz.func28 rfl (enter_of Tryz.func28 (by kernel_rfl) (by kernel_rfl)) (noid2 (PB_noid _ _ _ _) (PB_noid _ _ _ _)) (.val _) (nbq rfl) ?_
  unfold PB at *
  conv => whnf
  refine ⟨_, h1, ?_⟩
  repeat ((conv => whnf); (first | refine ⟨_, ‹_›, ?_⟩ | refine ⟨nbq rfl, _, ‹_›, ?_⟩ | refine ⟨by kernel_rfl, ?_⟩ | exact rfl | exact ⟨nbq rfl, rfl⟩ | refine ⟨by decide, ?_⟩))
 ·cases r2
  ·refine ⟨false, ?_, fun h => Bool.noConfusion h⟩
   refine AC.of_body TTok Tryz.func28 rfl (enter_of Tryz.func28 (by kernel_rfl) (by kernel_rfl)) (noid2 (PB_noid _ _ _ _) (PB_noid _ _ _ _)) (.val _) (nbq rfl) ?_
   unfold PB at *
   conv => whnf
   refine ⟨_, h1, ?_⟩
   conv => whnf
   refine ⟨_, h2, ?_⟩
   repeat ((conv => whnf); (first | refine ⟨_, ‹_›, ?_⟩ | refine ⟨nbq rfl, _, ‹_›, ?_⟩ | refine ⟨by kernel_rfl, ?_⟩ | exact rfl | exact ⟨nbq rfl, rfl⟩ | refine ⟨by decide, ?_⟩))
  ·obtain ⟨qa, la⟩ := p1 rfl
   obtain ⟨qb, lb⟩ := p2 rfl
   have la' := la
   have lb' := lb
   obtain ⟨ea, _, _, a1, a2, _⟩ := la
   obtain ⟨eb, _, _, b1, b2, _⟩ := lb
   refine ⟨decide ((ta.length + qa.length) * (tb.length + qb.length) ≤ 300), ?_, fun h => ⟨qa, qb, la', lb', of_decide_eq_true h⟩⟩
   have hLa := RLen_ok sa ca ta qa (by omega) (by omega)
   have hLb := RLen_ok sb cb tb qb (by omega) (by omega)
   rw [ea] at h1 ⊢
   rw [eb] at h2 ⊢
   obtain ⟨x, hx⟩ : ∃ x, x = ta.length + qa.length := ⟨_, rfl⟩
   obtain ⟨y, hy⟩ : ∃ y, y = tb.length + qb.length := ⟨_, rfl⟩
   rw [← hx] at hLa ⊢
   rw [← hy] at hLb ⊢
   have hxy : x * y ≤ 80 * 80 := Nat.mul_le_mul (by omega) (by omega)
   have e : decide (IntKind.i64.wrap ((x : Int) * (y : Int)) ≤ 300) = decide (x * y ≤ 300) := by
    rw [← Int.natCast_mul, wrap_nat' _ (by omega)]
    by_cases h : x * y ≤ 300
    ·rw [decide_eq_true h, decide_eq_true (by omega)]
    ·rw [decide_eq_false h, decide_eq_false (by omega)]
   refine AC.of_body TTok Tryz.func28 rfl (enter_of Tryz.func28 (by kernel_rfl) (by kernel_rfl)) (noid2 (PA_noid _ _ _ _) (PA_noid _ _ _ _)) (.val _) (nbq rfl) ?_
   rw [← e]
   unfold PA at *
   conv => whnf
   refine ⟨_, h1, ?_⟩
   conv => whnf
   refine ⟨_, h2, ?_⟩
   conv => whnf
   refine ⟨_, hLa, ?_⟩
   conv => whnf
   refine ⟨_, hLb, ?_⟩
   repeat ((conv => whnf); (first | refine ⟨_, ‹_›, ?_⟩ | refine ⟨nbq rfl, _, ‹_›, ?_⟩ | refine ⟨by kernel_rfl, ?_⟩ | exact rfl | exact ⟨nbq rfl, rfl⟩ | refine ⟨by decide, ?_⟩))
theorem showsP (s : List Int) (hs : s.length ≤ 1000) (l : List (Option (Rat × Nat))) (F : List (Rat × Int)) (hl : firstE F = 0 → l.map valX = F.map (·.1)) (ho : ∀ o ∈ l, okX o) (hn : l.length ≤ 5000) (hz : ∀ z ∈ F, z.2 = 0 → Sz z.1 20) :
  ∃ sh c t n z e sh' c' t' n', resF s false [] l (firstE F) = .tup [AA sh c t n z, .val (.int .i64 e)] ∧ resP s (firstE F) (F.map (·.1)) = .tup [PA sh' c' t' n', .val (.int .i64 e)] ∧
   AC Tryz.prog 30 [AA sh c t n z, .val (.int .i64 e), PA sh' c' t' n', .val (.int .i64 e)] (.pure (.val (.bool true))) := by
 unfold resF resP
 by_cases hE : firstE F = 0
 ·rw [if_pos hE, if_pos hE]
  refine ⟨_, _, _, _, _, _, _, _, _, _, rfl, rfl, ?_⟩
  rw [← hl hE]
  refine shows20_ok s false [] l hs (by decide) (by omega) (fun o h => ⟨ho o h, ?_⟩)
  have : valX o ∈ l.map valX := List.mem_map_of_mem h
  rw [hl hE] at this
  obtain ⟨z, hzF, hzz⟩ := List.mem_map.1 this
  have h0 := fst0_zero ((firstE_fst0 F).symm.trans hE) z.2 (List.mem_map_of_mem hzF)
  rw [← hzz]
  exact (hz z hzF h0).mono (by decide)
 ·rw [if_neg hE, if_neg hE]
  exact ⟨_, _, _, _, _, _, _, _, _, _, rfl, rfl, shows20_err _ hE _ _ _ _⟩
end
end Go.Proofs.YtbdklokfijjifaaGreat

namespace Go.Proofs.YtbdklokfijjifaaGreat.productOuters
open Go Go.AL NM
section
section
variable (c : Int) (sa sb : List Int) (ca cb : Bool) (ta tb : List Int)
theorem bad (La Lb : List TX) (h1 : AC Tryz.prog 28 [PB sa ca ta La, PB sb cb tb Lb] (.pure (.val (.bool false)))) : AC Tryz.prog 7 [.val (.int .i32 c), PB sa ca ta La, PB sb cb tb Lb] (.pure (.val (.bool true))) := by
 refine AC.of_body TTok Tryz.func7 rfl (enter_of Tryz.func7 (by kernel_rfl) (by kernel_rfl)) (noid3 (.val _) (PB_noid _ _ _ _) (PB_noid _ _ _ _)) (.val _) (nbq rfl) ?_
 have hA := awake20_ok
 unfold PB at *
 repeat ((conv => whnf); (first | refine ⟨_, ‹_›, ?_⟩ | refine ⟨nbq rfl, _, ‹_›, ?_⟩ | refine ⟨by kernel_rfl, ?_⟩ | exact rfl | exact ⟨nbq rfl, rfl⟩ | refine ⟨by decide, ?_⟩))
theorem both (qa qb : List Rat) (va : vS sa) (vb : vS sb) (ka : kinds sa ca ta.length qa.length) (kb : kinds sb cb tb.length qb.length) (ta1 : ta.length ≤ 40) (tb1 : tb.length ≤ 40) (qa1 : qa.length ≤ 40) (qb1 : qb.length ≤ 40) (h3 : (ta.length + qa.length) * (tb.length + qb.length) ≤ 300) (Sa : ∀ q ∈ qa, Sz q 20) (Sb : ∀ q ∈ qb, Sz q 20) :
  ∃ sh k t n z e sh' k' t' n', AC Tryz.prog 24 [.val (.int .i32 c), AA sa ca ta (qa.map ofX) true, AA sb cb tb (qb.map ofX) true, .val (.int .i64 6)] (.pure (.tup [AA sh k t n z, .val (.int .i64 e)])) ∧
   AC Tryz.prog 29 [.val (.int .i32 c), PA sa ca ta qa, PA sb cb tb qb, .val (.int .i64 6)] (.pure (.tup [PA sh' k' t' n', .val (.int .i64 e)])) ∧
   AC Tryz.prog 30 [AA sh k t n z, .val (.int .i64 e), PA sh' k' t' n', .val (.int .i64 e)] (.pure (.val (.bool true))) := by
 by_cases hc : isTwo c
 ·by_cases hr : roomE (sa ++ sb) = 0
  ·have h8 : (sa ++ sb).length ≤ 1000 := by rw [List.length_append]; have := va.1; have := vb.1; omega
   have e1 : ta.length + qa.length = pr sa := by
    obtain ⟨k1, k2⟩ := kinds_c va ka
    cases ca
    ·have := k2 rfl; omega
    ·have := k1 rfl; omega
   have e2 : tb.length + qb.length = pr sb := by
    obtain ⟨k1, k2⟩ := kinds_c vb kb
    cases cb
    ·have := k2 rfl; omega
    ·have := k1 rfl; omega
   rw [e1, e2] at h3
   obtain ⟨l, l1, l2, l3, l4⟩ := Outer_good c 6 hc (by decide) sa sb ca cb ta tb (qa.map ofX) (qb.map ofX) qa qb (map_valX_of qa) (map_valX_of qb) (ofX_ok qa) (ofX_ok qb) Sa Sb va vb (by rw [List.length_map]; exact ka) (by rw [List.length_map]; exact kb) hr (by omega)
   have d := ROuter_good c 6 hc (by decide) sa sb ca cb ta tb qa qb Sa Sb va vb ka kb hr (by omega)
   obtain ⟨sh, k, t, n, z, e, sh', k', t', n', g1, g2, g3⟩ := showsP (sa ++ sb) h8 l _ l1 l2 l3 (fun z hz h0 => by
    unfold outP at hz
    obtain ⟨i, _, rfl⟩ := List.mem_map.1 hz
    exact pair_szm (by decide) h0)
   rw [g1] at l4
   rw [g2] at d
   exact ⟨sh, k, t, n, z, e, sh', k', t', n', l4, d, g3⟩
  ·exact ⟨_, _, _, _, _, _, _, _, _, _, Outer_room c 6 sa sb ca cb ta tb _ _ hc va.1 vb.1 hr, ROuter_room c 6 sa sb ca cb ta tb qa qb hc va.1 vb.1 hr, shows20_err _ hr _ _ _ _⟩
 ·exact ⟨_, _, _, _, _, _, _, _, _, _, Outer_not c 6 sa sb ca cb ta tb _ _ hc, ROuter_not c 6 sa sb ca cb ta tb qa qb hc, shows20_err 20 (by decide) _ _ _ _⟩
theorem good (qa qb : List Rat) (h1 : AC Tryz.prog 28 [PA sa ca ta qa, PA sb cb tb qb] (.pure (.val (.bool true))))
  (va : vS sa) (vb : vS sb) (ka : kinds sa ca ta.length qa.length) (kb : kinds sb cb tb.length qb.length) (ta1 : ta.length ≤ 40) (tb1 : tb.length ≤ 40) (qa1 : qa.length ≤ 40) (qb1 : qb.length ≤ 40) (h3 : (ta.length + qa.length) * (tb.length + qb.length) ≤ 300) (Qa : ∀ q ∈ qa, QR q) (Qb : ∀ q ∈ qb, QR q) :
  AC Tryz.prog 7 [.val (.int .i32 c), PA sa ca ta qa, PA sb cb tb qb] (.pure (.val (.bool true))) := by
 refine AC.of_body TTok Tryz.func7 rfl (enter_of Tryz.func7 (by kernel_rfl) (by kernel_rfl)) (noid3 (.val _) (PA_noid _ _ _ _) (PA_noid _ _ _ _)) (.val _) (nbq rfl) ?_
 have hA := awake20_ok
 have o1 := LOf_ok sa ca ta qa va ka Qa (by omega) (by omega)
 have o2 := LOf_ok sb cb tb qb vb kb Qb (by omega) (by omega)
 obtain ⟨sh, k, t, n, z, e, sh', k', t', n', f1, f2, hS⟩ := both c sa sb ca cb ta tb qa qb va vb ka kb ta1 tb1 qa1 qb1 h3 (fun q h => ((Qa q h).sz).mono (by decide)) (fun q h => ((Qb q h).sz).mono (by decide))
 unfold PA AA at *
 conv => whnf
 refine ⟨_, h1, ?_⟩
 conv => whnf
 refine ⟨_, o1, ?_⟩
 conv => whnf
 refine ⟨_, o2, ?_⟩
 conv => whnf
 refine ⟨_, f1, ?_⟩
 conv => whnf
 refine ⟨by kernel_rfl, ?_⟩
 conv => whnf
 refine ⟨_, f2, ?_⟩
 conv => whnf
 refine ⟨_, hS, ?_⟩
 repeat ((conv => whnf); (first | refine ⟨_, ‹_›, ?_⟩ | refine ⟨nbq rfl, _, ‹_›, ?_⟩ | refine ⟨by kernel_rfl, ?_⟩ | exact rfl | exact ⟨nbq rfl, rfl⟩ | refine ⟨by decide, ?_⟩))
end
theorem holds (c : Int) (sa : List Int) (ca : Bool) (ta : List Int) (La : List TX) (sb : List Int) (cb : Bool) (tb : List Int) (Lb : List TX) (wc : -2147483648 ≤ c ∧ c < 2147483648)
  (za : sa.length < 9223372036854775808 ∧ ta.length < 9223372036854775808 ∧ La.length < 9223372036854775808 ∧ GN La) (zb : sb.length < 9223372036854775808 ∧ tb.length < 9223372036854775808 ∧ Lb.length < 9223372036854775808 ∧ GN Lb) :
  AC Tryz.prog 7 [.val (.int .i32 c), PB sa ca ta La, PB sb cb tb Lb] (.pure (.val (.bool true))) := by
 obtain ⟨r, h1, h⟩ := lite20 sa ca ta La sb cb tb Lb za zb
 cases r
 ·exact bad c sa sb ca cb ta tb La Lb h1
 obtain ⟨qa, qb, ⟨ea, va, ka, ta1, qa1, Qa⟩, ⟨eb, vb, kb, tb1, qb1, Qb⟩, h3⟩ := h rfl
 rw [ea, eb] at h1 ⊢
 exact good c sa sb ca cb ta tb qa qb h1 va vb ka kb ta1 tb1 qa1 qb1 h3 Qa Qb
end
end Go.Proofs.YtbdklokfijjifaaGreat.productOuters
