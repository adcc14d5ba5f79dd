/- Shapes: all places (the program's code, gone through in place). -/
import Derived.Test.YtcdeiegpeiodjaaB3
set_option linter.unusedVariables false
namespace Go.Proofs.Ytcdeiegpeiodjaa
open Go Go.AL NM
section

section
variable (sa : List Int) (ch : Bool) (tx : List Int) (na : List (Option (Rat × Nat))) (s fr many : List Int)
set_option maxHeartbeats 4000000 in
set_option maxRecDepth 20000 in
theorem places_run (hv : vS many) (hs : vS s) (L n : Nat) (h8 : L ≤ 8) (hLL : L = many.length) (hL : s.length = L) (hF : fr.length = L) (bF : ∀ x ∈ fr, -100000 ≤ x ∧ x ≤ 100000) (hn : n = pr many) (Y : List Int) (lY : Y.length = n) (hYi : ∀ i, i < n → Y[i]? = some (plS 0 s (addL (dig many i) fr))) :
    SW Try.prog (Try.f48.body.getD .skip) (fun e s2 => e = .ret ∧ s2.t 4 = .own 272 0 n ∧ okT s2 (σf []) 600 [(1000003, .sl 1 (irows .i64 many) false), (1000004, .lp 0 0), (1000008, .lp 24 0), (1000009, .val (.int .i64 0))] ∧ okH s2 (σf []) 600 [(0, .cells 5 [[.sl 1 (irows .i64 sa) false, .val (.bool ch), .sl 1 (irows .i32 tx) false, .sl 3 (na.map rowX) false, .val (.bool true)]]), (8, .cells 1 [[.sl 1 (irows .i64 s) false]]), (16, .cells 1 [[.sl 1 (irows .i64 fr) false]]), (24, .cells 5 [[.sl 0 [] true, .val (.bool false), .sl 0 [] true, .sl 0 [] true, .val (.bool false)]]), (272, .cells 1 (irows .i64 Y))]) (mkS [(0, .sl 1 (irows .i64 many) false), (1, .clo 49 [.lp 16 0, .lp 136 0, .lp 8 0]), (1000003, .sl 1 (irows .i64 many) false), (1000004, .lp 0 0), (1000008, .lp 24 0), (1000009, .val (.int .i64 0))] [(0, .cells 5 [[.sl 1 (irows .i64 sa) false, .val (.bool ch), .sl 1 (irows .i32 tx) false, .sl 3 (na.map rowX) false, .val (.bool true)]]), (8, .cells 1 [[.sl 1 (irows .i64 s) false]]), (16, .cells 1 [[.sl 1 (irows .i64 fr) false]]), (24, .cells 5 [[.sl 0 [] true, .val (.bool false), .sl 0 [] true, .sl 0 [] true, .val (.bool false)]]), (136, .cells 1 [[.own 128 0 L]]), (128, .cells 1 (irows .i64 (List.replicate L 0)))] 184 61) := by
  have hC := Count_ok many (by omega)
  rw [CNT_good hv, (vS_pr hv).1, ← hn] at hC
  have n4 := (vS_pr hv).2
  rw [← hn] at n4
  have lm := irows_len .i64 many
  have eM : (irows .i64 many).length = L := by omega
  have lYr := irows_len .i64 Y
  show SW Try.prog (.seq (.region 0 _ false) _) _ _
  refine SW.seqA TTok ?_
  conv => whnf
  refine SW.seqA TTok ?_
  conv => whnf
  refine ⟨_, hC, ?_⟩
  conv => whnf
  refine SW.seqA TTok ?_
  conv => whnf
  refine SW.seqA TTok ?_
  conv => whnf
  refine ⟨⟨by omega, by omega, by show ((n : Nat) : Int) * ((8 : Nat) : Int) ≤ 140737488355328; omega⟩, ?_⟩
  conv => whnf
  refine SW.seqA TTok ?_
  conv => whnf
  refine ⟨⟨by omega, by omega, by show (((irows .i64 many).length : Nat) : Int) * ((8 : Nat) : Int) ≤ 140737488355328; omega⟩, ?_⟩
  conv => whnf
  refine SW.seqA TTok ?_
  conv => whnf
  refine SW.loopS TTok (fun x : Nat × List Int × List Int => [(0, .sl 1 (irows .i64 many) false), (1, .clo 49 [.lp 16 0, .lp 136 0, .lp 8 0]), (7, .own 272 0 n), (8, .own 304 0 L), (24, .val (.int .i64 (n : Int))), (25, .val (.int .i64 (x.1 : Int))), (1000003, .sl 1 (irows .i64 many) false), (1000004, .lp 0 0), (1000008, .lp 24 0), (1000009, .val (.int .i64 0))])
    (fun x => [(0, .cells 5 [[.sl 1 (irows .i64 sa) false, .val (.bool ch), .sl 1 (irows .i32 tx) false, .sl 3 (na.map rowX) false, .val (.bool true)]]), (8, .cells 1 [[.sl 1 (irows .i64 s) false]]), (16, .cells 1 [[.sl 1 (irows .i64 fr) false]]), (24, .cells 5 [[.sl 0 [] true, .val (.bool false), .sl 0 [] true, .sl 0 [] true, .val (.bool false)]]), (136, .cells 1 [[.own 128 0 L]]), (128, .cells 1 (irows .i64 x.2.2)), (304, .cells 1 (irows .i64 x.2.1)), (272, .cells 1 (irows .i64 (Y.take x.1) ++ List.replicate (n - x.1) ([.val (.int .i64 0)] : List AV)))]) 344 61 rfl (fun x => n - x.1) (fun x => x.1 ≤ n ∧ x.2.1.length = L ∧ x.2.2.length = L ∧ (x.1 < n → x.2.1 = dig many x.1)) (0, List.replicate L 0, List.replicate L 0) [] ⟨Nat.zero_le _, List.length_replicate, List.length_replicate, fun _ => by show List.replicate L 0 = dig many 0; rw [dig_zero, ← hLL]⟩
    ⟨⟨rfl, rfl⟩, ⟨rfl, rfl⟩, ⟨rfl, rfl⟩, ⟨ownE rfl eM, rfl⟩, ⟨rfl, rfl⟩, ⟨rfl, rfl⟩, ⟨rfl, rfl⟩, ⟨rfl, rfl⟩, ⟨rfl, rfl⟩, ⟨rfl, rfl⟩, trivial⟩ ⟨⟨rfl, .inr ⟨rfl, rfl⟩⟩, ⟨rfl, .inr ⟨rfl, rfl⟩⟩, ⟨rfl, .inr ⟨rfl, rfl⟩⟩, ⟨rfl, .inr ⟨rfl, rfl⟩⟩, ⟨rfl, .inr ⟨rfl, rfl⟩⟩, ⟨rfl, .inl ⟨rfl, irows_noid _ _⟩⟩, ⟨rfl, .inl ⟨celE ((congrArg (fun k => List.replicate k ([.val (.int .i64 0)] : List AV)) eM).trans (irows_rep L).symm), irows_noid _ _⟩⟩, ⟨rfl, .inl ⟨celE (by rw [List.take_zero, Nat.sub_zero]; rfl), nz2_noid _ _⟩⟩, trivial⟩ rfl ?_
  rintro ⟨i, Lp, K⟩ ⟨hi, hLp, hK, hD⟩
  have hi : i ≤ n := hi
  have hLp : Lp.length = L := hLp
  have hK : K.length = L := hK
  have hD : i < n → Lp = dig many i := hD
  by_cases hlt : i < n
  · have hD := hD hlt
    refine SW.seqA TTok ?_
    conv => whnf
    refine SW.seqA TTok ?_
    conv => whnf
    first
      | refine caseb (fun _ => ?_) (fun h => absurd (of_decide_eq_false h) (by omega))
      | refine caseb (fun h => absurd (of_decide_eq_true h) (by omega)) (fun _ => ?_)
      | refine caseb (fun _ => ?_) (fun h => absurd (beq_eq_false_iff_ne.1 h) (by omega))
      | refine caseb (fun h => absurd (eq_of_beq h) (by omega)) (fun _ => ?_)
    conv => whnf
    refine SW.seq (SW.block (SW.seqA TTok ?_))
    conv => whnf
    refine SW.seq (SW.regionAt TTok 4 _ rfl rfl rfl ?_)
    conv => whnf
    have lfl : (irows .i64 (Y.take i) ++ List.replicate (n - i) ([.val (.int .i64 0)] : List AV)).length = n := by rw [List.length_append, irows_len, List.length_take, List.length_replicate]; omega
    obtain ⟨z, hz⟩ : ∃ z : Nat → Int, ∀ t, z t = (L : Int) - 1 - (t : Int) := ⟨fun t => (L : Int) - 1 - (t : Int), fun _ => rfl⟩
    have eI : IntKind.i64.wrap ((i : Int) + 1) = ((i + 1 : Nat) : Int) := by rw [IntWalk.i64_in _ (by omega)]; omega
    have hYv := hYi i hlt
    rw [← hD] at hYv
    obtain ⟨y, hy⟩ : ∃ y, y = plS 0 s (addL Lp fr) := ⟨_, rfl⟩
    rw [← hy] at hYv
    have bL : ∀ x ∈ Lp, 0 ≤ x ∧ x ≤ 4096 := by rw [hD]; exact dig_small hv i (by omega)
    refine Stp.cloM TTok rfl rfl rfl Try.func49 rfl (enter_of Try.func49 (by kernel_rfl) (by kernel_rfl)) (Nat.le_of_ble_eq_true rfl) (Nat.le_of_ble_eq_true rfl) rfl [(0, .own 304 0 L), (1, .lp 16 0), (2, .lp 136 0), (3, .lp 8 0), (1000000, .sl 1 (irows .i64 many) false), (1000001, .clo 49 [.lp 16 0, .lp 136 0, .lp 8 0]), (1000007, .own 272 0 n), (1000008, .own 304 0 L), (1000024, .val (.int .i64 (n : Int))), (1000025, .val (.int .i64 (i : Int))), (1000009, .val (.int .i64 (i : Int))), (1000028, .own 272 0 n), (1000029, .val (.int .i64 (i : Int))), (2000003, .sl 1 (irows .i64 many) false), (2000004, .lp 0 0), (2000008, .lp 24 0), (2000009, .val (.int .i64 0))] [(0, .cells 5 [[.sl 1 (irows .i64 sa) false, .val (.bool ch), .sl 1 (irows .i32 tx) false, .sl 3 (na.map rowX) false, .val (.bool true)]]), (8, .cells 1 [[.sl 1 (irows .i64 s) false]]), (16, .cells 1 [[.sl 1 (irows .i64 fr) false]]), (24, .cells 5 [[.sl 0 [] true, .val (.bool false), .sl 0 [] true, .sl 0 [] true, .val (.bool false)]]), (136, .cells 1 [[.own 128 0 L]]), (128, .cells 1 (irows .i64 K)), (304, .cells 1 (irows .i64 Lp)), (272, .cells 1 (irows .i64 (Y.take i) ++ List.replicate (n - i) ([.val (.int .i64 0)] : List AV)))] 600 36 rfl
      (Wk.of (σf []) _ _ 600 36 rfl ⟨⟨rfl, rfl⟩, ⟨rfl, rfl⟩, ⟨rfl, rfl⟩, ⟨rfl, rfl⟩, ⟨rfl, rfl⟩, ⟨rfl, rfl⟩, ⟨rfl, rfl⟩, ⟨rfl, rfl⟩, ⟨rfl, rfl⟩, ⟨rfl, rfl⟩, ⟨rfl, rfl⟩, ⟨rfl, rfl⟩, ⟨rfl, rfl⟩, ⟨rfl, rfl⟩, ⟨rfl, rfl⟩, ⟨rfl, rfl⟩, ⟨rfl, rfl⟩, trivial⟩ ⟨⟨rfl, .inr ⟨rfl, rfl⟩⟩, ⟨rfl, .inr ⟨rfl, rfl⟩⟩, ⟨rfl, .inr ⟨rfl, rfl⟩⟩, ⟨rfl, .inr ⟨rfl, rfl⟩⟩, ⟨rfl, .inr ⟨rfl, rfl⟩⟩, ⟨rfl, .inl ⟨rfl, irows_noid _ _⟩⟩, ⟨rfl, .inl ⟨rfl, irows_noid _ _⟩⟩, ⟨rfl, .inl ⟨rfl, nz2_noid _ _⟩⟩, trivial⟩ rfl) [(32, .val (.int .i64 y)), (0, .sl 1 (irows .i64 many) false), (1, .clo 49 [.lp 16 0, .lp 136 0, .lp 8 0]), (7, .own 272 0 n), (8, .own 304 0 L), (24, .val (.int .i64 (n : Int))), (25, .val (.int .i64 (i : Int))), (9, .val (.int .i64 (i : Int))), (28, .own 272 0 n), (29, .val (.int .i64 (i : Int))), (1000003, .sl 1 (irows .i64 many) false), (1000004, .lp 0 0), (1000008, .lp 24 0), (1000009, .val (.int .i64 0))] [(0, .cells 5 [[.sl 1 (irows .i64 sa) false, .val (.bool ch), .sl 1 (irows .i32 tx) false, .sl 3 (na.map rowX) false, .val (.bool true)]]), (8, .cells 1 [[.sl 1 (irows .i64 s) false]]), (16, .cells 1 [[.sl 1 (irows .i64 fr) false]]), (24, .cells 5 [[.sl 0 [] true, .val (.bool false), .sl 0 [] true, .sl 0 [] true, .val (.bool false)]]), (136, .cells 1 [[.own 128 0 L]]), (128, .cells 1 (irows .i64 (addL Lp fr))), (304, .cells 1 (irows .i64 Lp)), (272, .cells 1 (irows .i64 (Y.take i) ++ List.replicate (n - i) ([.val (.int .i64 0)] : List AV)))] 600 61 rfl ((clo_run sa ch tx na s fr many hs L n i Y Lp K h8 hL hF bF hLp hK bL y hy).mono fun e s2 h => ⟨.inl h.1, [.val (.int .i64 y)], by show some [s2.t 5] = _; rw [h.2.1], Wk.of (σf []) _ _ 600 61 rfl ⟨⟨rfl, rfl⟩, h.2.2.1⟩ h.2.2.2 rfl⟩) ?_
    conv => whnf
    refine ⟨by omega, ?_⟩
    conv => whnf
    refine ⟨by rw [Nat.zero_add, Int.toNat_natCast]; show i < (irows .i64 (Y.take i) ++ List.replicate (n - i) ([.val (.int .i64 0)] : List AV)).length; omega, ?_⟩
    conv => whnf
    refine SW.weak (Wk.of (σf []) [(0, .sl 1 (irows .i64 many) false), (1, .clo 49 [.lp 16 0, .lp 136 0, .lp 8 0]), (7, .own 272 0 n), (8, .own 304 0 L), (24, .val (.int .i64 (n : Int))), (25, .val (.int .i64 (i : Int))), (1000003, .sl 1 (irows .i64 many) false), (1000004, .lp 0 0), (1000008, .lp 24 0), (1000009, .val (.int .i64 0))] [(0, .cells 5 [[.sl 1 (irows .i64 sa) false, .val (.bool ch), .sl 1 (irows .i32 tx) false, .sl 3 (na.map rowX) false, .val (.bool true)]]), (8, .cells 1 [[.sl 1 (irows .i64 s) false]]), (16, .cells 1 [[.sl 1 (irows .i64 fr) false]]), (24, .cells 5 [[.sl 0 [] true, .val (.bool false), .sl 0 [] true, .sl 0 [] true, .val (.bool false)]]), (136, .cells 1 [[.own 128 0 L]]), (128, .cells 1 (irows .i64 (addL Lp fr))), (304, .cells 1 (irows .i64 Lp)), (272, .cells 1 (irows .i64 (Y.take (i + 1)) ++ List.replicate (n - (i + 1)) ([.val (.int .i64 0)] : List AV)))] 600 61 rfl ⟨⟨rfl, rfl⟩, ⟨rfl, rfl⟩, ⟨rfl, rfl⟩, ⟨rfl, rfl⟩, ⟨rfl, rfl⟩, ⟨rfl, rfl⟩, ⟨rfl, rfl⟩, ⟨rfl, rfl⟩, ⟨rfl, rfl⟩, ⟨rfl, rfl⟩, trivial⟩ ⟨⟨rfl, .inr ⟨rfl, rfl⟩⟩, ⟨rfl, .inr ⟨rfl, rfl⟩⟩, ⟨rfl, .inr ⟨rfl, rfl⟩⟩, ⟨rfl, .inr ⟨rfl, rfl⟩⟩, ⟨rfl, .inr ⟨rfl, rfl⟩⟩, ⟨rfl, .inl ⟨rfl, irows_noid _ _⟩⟩, ⟨rfl, .inl ⟨rfl, irows_noid _ _⟩⟩, ⟨rfl, .inl ⟨celE ?_, nz2_noid _ _⟩⟩, trivial⟩ rfl) rfl ?_
    · show (irows .i64 (Y.take i) ++ List.replicate (n - i) ([.val (.int .i64 0)] : List AV)).set (0 + (i : Int).toNat) _ = _
      rw [Nat.zero_add, Int.toNat_natCast, fill2_set Y n i _ hlt lY hYv]
    refine (carry_run sa ch tx na s fr many hv L n i Y Lp (addL Lp fr) h8 hLL hn hlt hLp hD).keep.mono ?_
    rintro e s2 ⟨⟨rfl, Lp', l1, l2, l3, l4⟩, l5⟩
    have lA := addL_len Lp fr (by omega)
    show SW Try.prog _ _ s2
    refine SW.weak (Wk.of (σf []) [(0, .sl 1 (irows .i64 many) false), (1, .clo 49 [.lp 16 0, .lp 136 0, .lp 8 0]), (7, .own 272 0 n), (8, .own 304 0 L), (24, .val (.int .i64 (n : Int))), (25, .val (.int .i64 (i : Int))), (1000003, .sl 1 (irows .i64 many) false), (1000004, .lp 0 0), (1000008, .lp 24 0), (1000009, .val (.int .i64 0))] [(0, .cells 5 [[.sl 1 (irows .i64 sa) false, .val (.bool ch), .sl 1 (irows .i32 tx) false, .sl 3 (na.map rowX) false, .val (.bool true)]]), (8, .cells 1 [[.sl 1 (irows .i64 s) false]]), (16, .cells 1 [[.sl 1 (irows .i64 fr) false]]), (24, .cells 5 [[.sl 0 [] true, .val (.bool false), .sl 0 [] true, .sl 0 [] true, .val (.bool false)]]), (136, .cells 1 [[.own 128 0 L]]), (128, .cells 1 (irows .i64 (addL Lp fr))), (304, .cells 1 (irows .i64 Lp')), (272, .cells 1 (irows .i64 (Y.take (i + 1)) ++ List.replicate (n - (i + 1)) ([.val (.int .i64 0)] : List AV)))] 600 61 l5 l3 l4 rfl) l5.symm ?_
    refine SW.go TTok ?_
    conv => whnf
    exact ⟨(i + 1, Lp', addL Lp fr), [], (by show n - (i + 1) < n - i; omega), ⟨hlt, l1, lA.trans hLp, l2⟩, ⟨⟨rfl, rfl⟩, ⟨rfl, rfl⟩, ⟨rfl, rfl⟩, ⟨rfl, rfl⟩, ⟨rfl, rfl⟩, ⟨valI eI, rfl⟩, ⟨rfl, rfl⟩, ⟨rfl, rfl⟩, ⟨rfl, rfl⟩, ⟨rfl, rfl⟩, trivial⟩, ⟨⟨rfl, .inr ⟨rfl, rfl⟩⟩, ⟨rfl, .inr ⟨rfl, rfl⟩⟩, ⟨rfl, .inr ⟨rfl, rfl⟩⟩, ⟨rfl, .inr ⟨rfl, rfl⟩⟩, ⟨rfl, .inr ⟨rfl, rfl⟩⟩, ⟨rfl, .inl ⟨rfl, irows_noid _ _⟩⟩, ⟨rfl, .inl ⟨rfl, irows_noid _ _⟩⟩, ⟨rfl, .inl ⟨rfl, nz2_noid _ _⟩⟩, trivial⟩, rfl⟩
  · have hie : i = n := by omega
    have eY : Y.take i = Y := List.take_of_length_le (by omega)
    rw [eY, hie, Nat.sub_self]
    show SW _ _ _ (mkS _ [_, _, _, _, _, _, _, (272, .cells 1 (irows .i64 Y ++ []))] _ _)
    rw [List.append_nil]
    refine SW.seqA TTok ?_
    conv => whnf
    refine SW.seqA TTok ?_
    conv => whnf
    first
      | refine caseb (fun _ => ?_) (fun h => absurd (of_decide_eq_false h) (by omega))
      | refine caseb (fun h => absurd (of_decide_eq_true h) (by omega)) (fun _ => ?_)
      | refine caseb (fun _ => ?_) (fun h => absurd (beq_eq_false_iff_ne.1 h) (by omega))
      | refine caseb (fun h => absurd (eq_of_beq h) (by omega)) (fun _ => ?_)
    conv => whnf
    refine SW.go TTok ?_
    conv => whnf
    exact ⟨rfl, rfl, ⟨⟨rfl, rfl⟩, ⟨rfl, rfl⟩, ⟨rfl, rfl⟩, ⟨rfl, rfl⟩, trivial⟩, ⟨⟨rfl, .inr ⟨rfl, rfl⟩⟩, ⟨rfl, .inr ⟨rfl, rfl⟩⟩, ⟨rfl, .inr ⟨rfl, rfl⟩⟩, ⟨rfl, .inr ⟨rfl, rfl⟩⟩, ⟨rfl, .inl ⟨rfl, irows_noid _ _⟩⟩, trivial⟩⟩
end
end
section

section
variable (sa : List Int) (ch : Bool) (tx : List Int) (na : List (Option (Rat × Nat))) (s fr many : List Int)
theorem win_nd : ∀ x ∈ [AA sa ch tx na true, .sl 1 (irows .i64 s) false, .sl 1 (irows .i64 fr) false, .sl 1 (irows .i64 many) false], NoId x := noidF (AA_noid _ _ _ _ _) (noid_sl _ _ _) (noid_sl _ _ _) (noid_sl _ _ _)
set_option maxHeartbeats 4000000 in
set_option maxRecDepth 20000 in
theorem window_ok (hv : vS many) (hs : vS s) (hL : s.length = many.length) (hF : fr.length = many.length) (bF : ∀ x ∈ fr, -100000 ≤ x ∧ x ≤ 100000) (t5 : tx.length ≤ 100000) (n5 : na.length ≤ 100000) (Y : List Int) (hY : Y = (List.range (pr many)).map fun i => plS 0 s (addL (dig many i) fr)) :
    AC Try.prog 24 [AA sa ch tx na true, .sl 1 (irows .i64 s) false, .sl 1 (irows .i64 fr) false, .sl 1 (irows .i64 many) false] (.pure (.tup [AA many ch (pickT ch tx Y) (pickX ch na Y) true, .val (.int .i64 0)])) := by
  have h8 := hv.1
  have hC := Count_ok many (by omega)
  rw [CNT_good hv, (vS_pr hv).1] at hC
  have n4 := (vS_pr hv).2
  obtain ⟨n, hn⟩ : ∃ n, n = pr many := ⟨_, rfl⟩
  obtain ⟨L, hLL⟩ : ∃ L, L = many.length := ⟨_, rfl⟩
  rw [← hn] at hC n4 hY
  rw [← hLL] at hL hF h8
  have lY : Y.length = n := by rw [hY, List.length_map, List.length_range]
  have hYi : ∀ i, i < n → Y[i]? = some (plS 0 s (addL (dig many i) fr)) := fun i hi => by rw [hY, List.getElem?_map, List.getElem?_range hi]; rfl
  have hPk := Pick_any sa ch tx na many Y hv (by rw [lY, hn]) t5 n5
  generalize pickT ch tx Y = T at *
  generalize pickX ch na Y = X at *
  have lYr := irows_len .i64 Y
  have fY : irows .i64 Y = List.take n (List.drop 0 (irows .i64 Y)) := by rw [List.drop_zero, List.take_of_length_le (by omega)]
  rw [fY] at hPk
  have lm := irows_len .i64 many
  have lsr := irows_len .i64 s
  have lfr := irows_len .i64 fr
  clear hY
  have eS : (irows .i64 s).length = L := by omega
  have eM : (irows .i64 many).length = L := by omega
  refine AC.of_sw TTok Try.func24 rfl (enter_of Try.func24 (by kernel_rfl) (by kernel_rfl)) (win_nd sa ch tx na s fr many) (.tup _ (noid2 (AA_noid _ _ _ _ _) (.val _))) (Nat.le_of_ble_eq_true rfl) ?_
  unfold AA at *
  refine SW.seqA TTok ?_
  conv => whnf
  refine SW.seqA TTok ?_
  conv => whnf
  refine ⟨_, hC, ?_⟩
  conv => whnf
  refine SW.seqA TTok ?_
  conv => whnf
  refine ⟨⟨by omega, by omega, by show (((irows .i64 s).length : Nat) : Int) * ((8 : Nat) : Int) ≤ 140737488355328; omega⟩, ?_⟩
  conv => whnf
  refine SW.seq (SW.regionAt TTok 2 _ rfl rfl rfl ?_)
  conv => whnf
  refine Stp.innM TTok rfl rfl Try.func48 rfl (enter_of Try.func48 (by kernel_rfl) (by kernel_rfl)) (Nat.le_of_ble_eq_true rfl) (Nat.le_of_ble_eq_true rfl) rfl [(0, .sl 1 (irows .i64 many) false), (1, .clo 49 [.lp 16 0, .lp 136 0, .lp 8 0]), (1000003, .sl 1 (irows .i64 many) false), (1000004, .lp 0 0), (1000008, .lp 24 0), (1000009, .val (.int .i64 0))] [(0, .cells 5 [[.sl 1 (irows .i64 sa) false, .val (.bool ch), .sl 1 (irows .i32 tx) false, .sl 3 (na.map rowX) false, .val (.bool true)]]), (8, .cells 1 [[.sl 1 (irows .i64 s) false]]), (16, .cells 1 [[.sl 1 (irows .i64 fr) false]]), (24, .cells 5 [[.sl 0 [] true, .val (.bool false), .sl 0 [] true, .sl 0 [] true, .val (.bool false)]]), (136, .cells 1 [[.own 128 0 L]]), (128, .cells 1 (irows .i64 (List.replicate L 0)))] 184 61 rfl
    (Wk.of (σf []) _ _ 184 61 rfl ⟨⟨rfl, rfl⟩, ⟨rfl, rfl⟩, ⟨rfl, rfl⟩, ⟨rfl, rfl⟩, ⟨rfl, rfl⟩, ⟨rfl, rfl⟩, trivial⟩ ⟨⟨rfl, .inr ⟨rfl, rfl⟩⟩, ⟨rfl, .inr ⟨rfl, rfl⟩⟩, ⟨rfl, .inr ⟨rfl, rfl⟩⟩, ⟨rfl, .inr ⟨rfl, rfl⟩⟩, ⟨rfl, .inr ⟨celE (congrArg (fun k => [[AV.own 128 0 k]]) eS), rfl⟩⟩, ⟨rfl, .inl ⟨celE ((congrArg (fun k => List.replicate k ([.val (.int .i64 0)] : List AV)) eS).trans (irows_rep L).symm), irows_noid _ _⟩⟩, trivial⟩ rfl) [(33, .own 272 0 n), (3, .sl 1 (irows .i64 many) false), (4, .lp 0 0), (8, .lp 24 0), (9, .val (.int .i64 0))] [(0, .cells 5 [[.sl 1 (irows .i64 sa) false, .val (.bool ch), .sl 1 (irows .i32 tx) false, .sl 3 (na.map rowX) false, .val (.bool true)]]), (8, .cells 1 [[.sl 1 (irows .i64 s) false]]), (16, .cells 1 [[.sl 1 (irows .i64 fr) false]]), (24, .cells 5 [[.sl 0 [] true, .val (.bool false), .sl 0 [] true, .sl 0 [] true, .val (.bool false)]]), (272, .cells 1 (irows .i64 Y))] 600 42 rfl ((places_run sa ch tx na s fr many hv hs L n h8 hLL hL hF bF hn Y lY hYi).mono fun e s2 h => ⟨.inl h.1, [.own 272 0 n], by show some [s2.t 4] = _; rw [h.2.1], Wk.of (σf []) _ _ 600 42 rfl ⟨⟨rfl, rfl⟩, h.2.2.1⟩ h.2.2.2 rfl⟩) ?_
  conv => whnf
  refine SW.go TTok ?_
  conv => whnf
  refine ⟨by show 0 + n ≤ (irows .i64 Y).length; omega, _, hPk, ?_⟩
  repeat
    conv => whnf
    first
      | refine ⟨_, by assumption, ?_⟩
      | refine ⟨(Nat.le_of_ble_eq_true rfl), _, by assumption, ?_⟩
      | refine ⟨by kernel_rfl, ?_⟩
      | exact rfl
      | exact ⟨Nat.le_of_ble_eq_true rfl, rfl⟩
      | refine ⟨by decide, ?_⟩
end
end
section

/-- A number without its sign, at most a little more than may be. -/
def sizeI (n : Int) : Int := if n < 0 then -(max n (-4097)) else min n 4097
theorem sizeI_nonneg (n : Int) : 0 ≤ sizeI n ∧ sizeI n ≤ 4097 := by unfold sizeI; split <;> omega
theorem size_ok (n : Int) (h : i64b n) : AC Try.prog 23 [.val (.int .i64 n)] (.pure (.val (.int .i64 (sizeI n)))) := by
  obtain ⟨h1, h2⟩ := h
  refine AC.of_body TTok Try.func23 rfl (enter_of Try.func23 (by kernel_rfl) (by kernel_rfl)) (noid1 (.val _)) (.val _) (Nat.le_of_ble_eq_true rfl) ?_
  by_cases h0 : n < 0
  · have e : IntKind.i64.wrap (0 - (if (-4097 : Int) > n then -4097 else n)) = sizeI n := by
      unfold sizeI
      rw [if_pos h0, IntWalk.i64_in _ (by split <;> omega)]
      split <;> omega
    rw [← e]
    conv => whnf
    first
      | refine caseb (fun _ => ?_) (fun h => absurd (of_decide_eq_false h) (by omega))
      | refine caseb (fun h => absurd (of_decide_eq_true h) (by omega)) (fun _ => ?_)
      | refine caseb (fun _ => ?_) (fun h => absurd (beq_eq_false_iff_ne.1 h) (by omega))
      | refine caseb (fun h => absurd (eq_of_beq h) (by omega)) (fun _ => ?_)
    repeat
      conv => whnf
      first
        | refine ⟨_, by assumption, ?_⟩
        | refine ⟨(Nat.le_of_ble_eq_true rfl), _, by assumption, ?_⟩
        | refine ⟨by kernel_rfl, ?_⟩
        | exact rfl
        | exact ⟨Nat.le_of_ble_eq_true rfl, rfl⟩
        | refine ⟨by decide, ?_⟩
  · have e : (if (4097 : Int) < n then 4097 else n) = sizeI n := by
      unfold sizeI
      rw [if_neg h0]
      split <;> omega
    rw [← e]
    conv => whnf
    first
      | refine caseb (fun _ => ?_) (fun h => absurd (of_decide_eq_false h) (by omega))
      | refine caseb (fun h => absurd (of_decide_eq_true h) (by omega)) (fun _ => ?_)
      | refine caseb (fun _ => ?_) (fun h => absurd (beq_eq_false_iff_ne.1 h) (by omega))
      | refine caseb (fun h => absurd (eq_of_beq h) (by omega)) (fun _ => ?_)
    repeat
      conv => whnf
      first
        | refine ⟨_, by assumption, ?_⟩
        | refine ⟨(Nat.le_of_ble_eq_true rfl), _, by assumption, ?_⟩
        | refine ⟨by kernel_rfl, ?_⟩
        | exact rfl
        | exact ⟨Nat.le_of_ble_eq_true rfl, rfl⟩
        | refine ⟨by decide, ?_⟩
theorem list9_ok (sh l : List Int) (h1 : sh.length ≤ 1) (hl : l.length ≤ 1000) (hI : ∀ n ∈ l, i64b n) : AC Try.prog 46 [AA sh false [] (l.map intX) true] (.pure (.tup [.sl 1 (irows .i64 l) false, .val (.int .i64 0)])) := by
  have hR := Rank_ok sh false [] (l.map intX) (by omega)
  have hW := AWhole_ok sh l hl hI
  refine AC.of_body TTok Try.func46 rfl (enter_of Try.func46 (by kernel_rfl) (by kernel_rfl)) (noid1 (AA_noid _ _ _ _ _)) (.tup _ (noid2 (noid_sl _ _ _) (.val _))) (Nat.le_of_ble_eq_true rfl) ?_
  unfold AA at *
  conv => whnf
  refine ⟨_, hR, ?_⟩
  conv => whnf
  first
    | refine caseb (fun _ => ?_) (fun h => absurd (of_decide_eq_false h) (by omega))
    | refine caseb (fun h => absurd (of_decide_eq_true h) (by omega)) (fun _ => ?_)
    | refine caseb (fun _ => ?_) (fun h => absurd (beq_eq_false_iff_ne.1 h) (by omega))
    | refine caseb (fun h => absurd (eq_of_beq h) (by omega)) (fun _ => ?_)
  conv => whnf
  refine ⟨_, hW, ?_⟩
  repeat
    conv => whnf
    first
      | refine ⟨_, by assumption, ?_⟩
      | refine ⟨(Nat.le_of_ble_eq_true rfl), _, by assumption, ?_⟩
      | refine ⟨by kernel_rfl, ?_⟩
      | exact rfl
      | exact ⟨Nat.le_of_ble_eq_true rfl, rfl⟩
      | refine ⟨by decide, ?_⟩
theorem bounds_ok (sh l sa : List Int) (ch : Bool) (tx : List Int) (na : List (Option (Rat × Nat))) (h1 : sh.length ≤ 1) (hI : ∀ n ∈ l, i64b n) (h0 : sa ≠ []) (h8 : sa.length ≤ 8) (hl : l.length = sa.length) :
    AC Try.prog 22 [AA sh false [] (l.map intX) true, AA sa ch tx na true] (.pure (.tup [.sl 1 (irows .i64 l) false, .sl 1 (irows .i64 sa) false, .val (.int .i64 0)])) := by
  have hL := list9_ok sh l h1 (by omega) hI
  have hS := Shape_ok sa ch tx na (by omega)
  have lr := irows_len .i64 l
  have lsa := irows_len .i64 sa
  have hp : sa.length ≠ 0 := fun e => h0 (List.length_eq_zero_iff.1 e)
  refine AC.of_body TTok Try.func22 rfl (enter_of Try.func22 (by kernel_rfl) (by kernel_rfl)) (noid2 (AA_noid _ _ _ _ _) (AA_noid _ _ _ _ _)) (.tup _ (noid3 (noid_sl _ _ _) (noid_sl _ _ _) (.val _))) (Nat.le_of_ble_eq_true rfl) ?_
  unfold AA at *
  conv => whnf
  refine ⟨_, hL, ?_⟩
  conv => whnf
  refine ⟨_, hS, ?_⟩
  conv => whnf
  first
    | refine caseb (fun _ => ?_) (fun h => absurd (of_decide_eq_false h) (by omega))
    | refine caseb (fun h => absurd (of_decide_eq_true h) (by omega)) (fun _ => ?_)
    | refine caseb (fun _ => ?_) (fun h => absurd (beq_eq_false_iff_ne.1 h) (by omega))
    | refine caseb (fun h => absurd (eq_of_beq h) (by omega)) (fun _ => ?_)
  conv => whnf
  first
    | refine caseb (fun h => absurd (bne_iff_ne.1 h) (by omega)) (fun _ => ?_)
    | refine caseb (fun _ => ?_) (fun h => absurd (bne_eq_false_iff_eq.1 h) (by omega))
  repeat
    conv => whnf
    first
      | refine ⟨_, by assumption, ?_⟩
      | refine ⟨(Nat.le_of_ble_eq_true rfl), _, by assumption, ?_⟩
      | refine ⟨by kernel_rfl, ?_⟩
      | exact rfl
      | exact ⟨Nat.le_of_ble_eq_true rfl, rfl⟩
      | refine ⟨by decide, ?_⟩
/-- How many are taken along each axis, and from where. -/
def takeM (l : List Int) : List Int := l.map sizeI
def takeF (l sa : List Int) : List Int := List.zipWith (fun n d => if n < 0 then d - sizeI n else 0) l sa
theorem fill0 (Y : List Int) (n i : Nat) (hi : i < n) (lY : Y.length = n) (hy : Y[i]? = some 0) :
    irows .i64 (Y.take i) ++ List.replicate (n - i) ([.val (.int .i64 0)] : List AV) = irows .i64 (Y.take (i + 1)) ++ List.replicate (n - (i + 1)) [.val (.int .i64 0)] := by
  have hY : Y[i]'(by omega) = 0 := by rw [List.getElem?_eq_getElem (by omega)] at hy; exact Option.some.inj hy
  rw [rep_drop _ n i hi, take_snoc (show i < Y.length by omega), hY, ← irows_append, List.append_assoc]
  rfl
set_option maxRecDepth 20000 in
theorem Take_ok (sh l sa : List Int) (ch : Bool) (tx : List Int) (na : List (Option (Rat × Nat))) (h1 : sh.length ≤ 1) (hI : ∀ n ∈ l, i64b n) (h0 : sa ≠ []) (hv : vS sa) (hl : l.length = sa.length) (sh' : List Int) (ch' : Bool) (tx' : List Int) (na' : List (Option (Rat × Nat))) (z : Bool) (e : Int)
    (hW : AC Try.prog 24 [AA sa ch tx na true, .sl 1 (irows .i64 sa) false, .sl 1 (irows .i64 (takeF l sa)) false, .sl 1 (irows .i64 (takeM l)) false] (.pure (.tup [AA sh' ch' tx' na' z, .val (.int .i64 e)]))) :
    AC Try.prog 7 [AA sh false [] (l.map intX) true, AA sa ch tx na true] (.pure (.tup [AA sh' ch' tx' na' z, .val (.int .i64 e)])) := by
  have hB := bounds_ok sh l sa ch tx na h1 hI h0 hv.1 hl
  have h8 := hv.1
  obtain ⟨n, hn⟩ : ∃ n, n = l.length := ⟨_, rfl⟩
  obtain ⟨M, hM⟩ : ∃ M, M = takeM l := ⟨_, rfl⟩
  obtain ⟨F, hF⟩ : ∃ F, F = takeF l sa := ⟨_, rfl⟩
  have lM : M.length = n := by rw [hM, hn]; exact List.length_map _
  have lF : F.length = n := by rw [hF, hn]; unfold takeF; rw [List.length_zipWith]; omega
  have hMi : ∀ i (h : i < l.length), M[i]? = some (sizeI l[i]) := fun i h => by rw [hM]; unfold takeM; rw [List.getElem?_map, List.getElem?_eq_getElem h]; rfl
  have hFi : ∀ i (h : i < l.length) (h' : i < sa.length), F[i]? = some (if l[i] < 0 then sa[i] - sizeI l[i] else 0) := fun i h h' => by
    rw [hF]
    unfold takeF
    rw [List.getElem?_zipWith, List.getElem?_eq_getElem h, List.getElem?_eq_getElem h']
  rw [← hM, ← hF] at hW
  have lMr := irows_len .i64 M
  have lFr := irows_len .i64 F
  have fM : irows .i64 M = List.take n (List.drop 0 (irows .i64 M)) := by rw [List.drop_zero, List.take_of_length_le (by omega)]
  have fF : irows .i64 F = List.take n (List.drop 0 (irows .i64 F)) := by rw [List.drop_zero, List.take_of_length_le (by omega)]
  rw [fM, fF] at hW
  have lr := irows_len .i64 l
  have lsa := irows_len .i64 sa
  have e0 : (irows .i64 l).length = n := by omega
  have lfill : ∀ (Y : List Int), Y.length = n → ∀ i, i ≤ n → (irows .i64 (Y.take i) ++ List.replicate (n - i) ([.val (.int .i64 0)] : List AV)).length = n := fun Y hY i hi => by rw [List.length_append, irows_len, List.length_take, List.length_replicate]; omega
  refine AC.of_body TTok Try.func7 rfl (enter_of Try.func7 (by kernel_rfl) (by kernel_rfl)) (noid2 (AA_noid _ _ _ _ _) (AA_noid _ _ _ _ _)) (.tup _ (noid2 (AA_noid _ _ _ _ _) (.val _))) (Nat.le_of_ble_eq_true rfl) ?_
  unfold AA at *
  conv => whnf
  refine ⟨_, hB, ?_⟩
  conv => whnf
  refine ⟨⟨by omega, by omega, by show (((irows .i64 l).length : Nat) : Int) * ((8 : Nat) : Int) ≤ 140737488355328; omega⟩, ?_⟩
  conv => whnf
  refine ⟨⟨by omega, by omega, by show (((irows .i64 l).length : Nat) : Int) * ((8 : Nat) : Int) ≤ 140737488355328; omega⟩, ?_⟩
  conv => whnf
  refine ⟨by kernel_rfl, ?_⟩
  conv => whnf
  refine SW.loopM TTok (fun i : Nat => [(2, .lp 0 0), (3, .lp 8 0), (4, .lp 16 0), (5, .val (.int .i64 0)), (6, .sl 1 (irows .i64 l) false), (7, .sl 1 (irows .i64 sa) false), (9, .own 144 0 n), (10, .own 168 0 n), (30, .sl 1 (irows .i64 l) false), (31, .val (.int .i64 (n : Int))), (32, .val (.int .i64 (i : Int)))])
    (fun i => [(0, .cells 5 [[.sl 1 (irows .i64 sh) false, .val (.bool false), .sl 1 (irows .i32 []) false, .sl 3 ((l.map intX).map rowX) false, .val (.bool true)]]), (8, .cells 5 [[.sl 1 (irows .i64 sa) false, .val (.bool ch), .sl 1 (irows .i32 tx) false, .sl 3 (na.map rowX) false, .val (.bool true)]]), (16, .cells 5 [[.sl 0 [] true, .val (.bool false), .sl 0 [] true, .sl 0 [] true, .val (.bool false)]]), (144, .cells 1 (irows .i64 (F.take i) ++ List.replicate (n - i) ([.val (.int .i64 0)] : List AV))), (168, .cells 1 (irows .i64 (M.take i) ++ List.replicate (n - i) ([.val (.int .i64 0)] : List AV)))]) 216 64 rfl (fun i => n - i) (fun i => i ≤ n) 0 [] (Nat.zero_le _)
    ⟨⟨rfl, rfl⟩, ⟨rfl, rfl⟩, ⟨rfl, rfl⟩, ⟨rfl, rfl⟩, ⟨rfl, rfl⟩, ⟨rfl, rfl⟩, ⟨ownE rfl e0, rfl⟩, ⟨ownE rfl e0, rfl⟩, ⟨rfl, rfl⟩, ⟨valI (by rw [e0]), rfl⟩, ⟨rfl, rfl⟩, trivial⟩ ⟨⟨rfl, .inr ⟨rfl, rfl⟩⟩, ⟨rfl, .inr ⟨rfl, rfl⟩⟩, ⟨rfl, .inr ⟨rfl, rfl⟩⟩, ⟨rfl, .inl ⟨celE (by rw [List.take_zero, Nat.sub_zero]; exact congrArg (fun k => List.replicate k ([.val (.int .i64 0)] : List AV)) e0), nz2_noid _ _⟩⟩, ⟨rfl, .inl ⟨celE (by rw [List.take_zero, Nat.sub_zero]; exact congrArg (fun k => List.replicate k ([.val (.int .i64 0)] : List AV)) e0), nz2_noid _ _⟩⟩, trivial⟩ rfl ?_
  intro i hi
  have hi : i ≤ n := hi
  have lfF := lfill F lF i hi
  have lfM := lfill M lM i hi
  by_cases hlt : i < n
  · have hil : i < l.length := by omega
    have his : i < sa.length := by omega
    have eI : IntKind.i64.wrap ((i : Int) + 1) = ((i + 1 : Nat) : Int) := by rw [IntWalk.i64_in _ (by omega)]; omega
    have g1 := irows_get .i64 l (List.getElem?_eq_getElem hil)
    have g2 := irows_get .i64 sa (List.getElem?_eq_getElem his)
    have hm := hMi i hil
    have hf := hFi i hil his
    have d1 := hv.2.1 _ (List.getElem_mem his)
    have d2 := vS_dim hv (List.getElem_mem his)
    have hSz := size_ok l[i] (hI _ (List.getElem_mem hil))
    have sz := sizeI_nonneg l[i]
    obtain ⟨x, hx⟩ : ∃ x, x = l[i] := ⟨_, rfl⟩
    obtain ⟨d, hd⟩ : ∃ d, d = sa[i] := ⟨_, rfl⟩
    rw [← hx] at g1 hm hf hSz sz
    rw [← hd] at g2 hf d1 d2
    obtain ⟨y, hy⟩ : ∃ y, y = sizeI x := ⟨_, rfl⟩
    rw [← hy] at hm hf hSz sz
    have eM := fill2_set M n i y hlt lM hm
    have wd : IntKind.i64.wrap (d - y) = d - y := by rw [IntWalk.i64_in _ (by omega)]
    conv => whnf
    first
      | refine caseb (fun _ => ?_) (fun h => absurd (of_decide_eq_false h) (by omega))
      | refine caseb (fun h => absurd (of_decide_eq_true h) (by omega)) (fun _ => ?_)
      | refine caseb (fun _ => ?_) (fun h => absurd (beq_eq_false_iff_ne.1 h) (by omega))
      | refine caseb (fun h => absurd (eq_of_beq h) (by omega)) (fun _ => ?_)
    conv => whnf
    refine ⟨_, ⟨by omega, by rw [Int.toNat_natCast]; exact g1⟩, ?_⟩
    conv => whnf
    refine ⟨_, hSz, ?_⟩
    conv => whnf
    refine ⟨by omega, ?_⟩
    conv => whnf
    refine ⟨by rw [Nat.zero_add, Int.toNat_natCast]; show i < (irows .i64 (M.take i) ++ List.replicate (n - i) ([.val (.int .i64 0)] : List AV)).length; omega, ?_⟩
    by_cases h0x : x < 0
    · rw [if_pos h0x] at hf
      have eF := fill2_set F n i (d - y) hlt lF hf
      conv => whnf
      first
        | refine caseb (fun _ => ?_) (fun h => absurd (of_decide_eq_false h) (by omega))
        | refine caseb (fun h => absurd (of_decide_eq_true h) (by omega)) (fun _ => ?_)
        | refine caseb (fun _ => ?_) (fun h => absurd (beq_eq_false_iff_ne.1 h) (by omega))
        | refine caseb (fun h => absurd (eq_of_beq h) (by omega)) (fun _ => ?_)
      conv => whnf
      refine ⟨_, ⟨by omega, by rw [Int.toNat_natCast]; exact g2⟩, ?_⟩
      conv => whnf
      refine ⟨by omega, ?_⟩
      conv => whnf
      refine ⟨_, by rw [Nat.zero_add, Int.toNat_natCast]; exact List.getElem?_set_self (by omega), ?_⟩
      conv => whnf
      refine ⟨by omega, ?_⟩
      conv => whnf
      refine ⟨by rw [Nat.zero_add, Int.toNat_natCast]; show i < (irows .i64 (F.take i) ++ List.replicate (n - i) ([.val (.int .i64 0)] : List AV)).length; omega, ?_⟩
      conv => whnf
      refine ⟨by kernel_rfl, ?_⟩
      conv => whnf
      refine ⟨i + 1, [], (by show n - (i + 1) < n - i; omega), hlt, ⟨⟨rfl, rfl⟩, ⟨rfl, rfl⟩, ⟨rfl, rfl⟩, ⟨rfl, rfl⟩, ⟨rfl, rfl⟩, ⟨rfl, rfl⟩, ⟨rfl, rfl⟩, ⟨rfl, rfl⟩, ⟨rfl, rfl⟩, ⟨rfl, rfl⟩, ⟨valI eI, rfl⟩, trivial⟩, ⟨⟨rfl, .inr ⟨rfl, rfl⟩⟩, ⟨rfl, .inr ⟨rfl, rfl⟩⟩, ⟨rfl, .inr ⟨rfl, rfl⟩⟩, ⟨rfl, .inl ⟨celE ?_, nz2_noid _ _⟩⟩, ⟨rfl, .inl ⟨celE ?_, nz2_noid _ _⟩⟩, trivial⟩, rfl⟩
      · rw [← eF]
        show (irows .i64 (F.take i) ++ List.replicate (n - i) ([.val (.int .i64 0)] : List AV)).set (0 + (i : Int).toNat) [.val (.int .i64 (IntKind.i64.wrap (d - y)))] = _
        rw [wd, Nat.zero_add, Int.toNat_natCast]
      · rw [← eM]
        show (irows .i64 (M.take i) ++ List.replicate (n - i) ([.val (.int .i64 0)] : List AV)).set (0 + (i : Int).toNat) _ = _
        rw [Nat.zero_add, Int.toNat_natCast]
    · rw [if_neg h0x] at hf
      have eF := fill0 F n i hlt lF hf
      conv => whnf
      first
        | refine caseb (fun _ => ?_) (fun h => absurd (of_decide_eq_false h) (by omega))
        | refine caseb (fun h => absurd (of_decide_eq_true h) (by omega)) (fun _ => ?_)
        | refine caseb (fun _ => ?_) (fun h => absurd (beq_eq_false_iff_ne.1 h) (by omega))
        | refine caseb (fun h => absurd (eq_of_beq h) (by omega)) (fun _ => ?_)
      conv => whnf
      refine ⟨i + 1, [], (by show n - (i + 1) < n - i; omega), hlt, ⟨⟨rfl, rfl⟩, ⟨rfl, rfl⟩, ⟨rfl, rfl⟩, ⟨rfl, rfl⟩, ⟨rfl, rfl⟩, ⟨rfl, rfl⟩, ⟨rfl, rfl⟩, ⟨rfl, rfl⟩, ⟨rfl, rfl⟩, ⟨rfl, rfl⟩, ⟨valI eI, rfl⟩, trivial⟩, ⟨⟨rfl, .inr ⟨rfl, rfl⟩⟩, ⟨rfl, .inr ⟨rfl, rfl⟩⟩, ⟨rfl, .inr ⟨rfl, rfl⟩⟩, ⟨rfl, .inl ⟨celE eF, nz2_noid _ _⟩⟩, ⟨rfl, .inl ⟨celE ?_, nz2_noid _ _⟩⟩, trivial⟩, rfl⟩
      rw [← eM]
      show (irows .i64 (M.take i) ++ List.replicate (n - i) ([.val (.int .i64 0)] : List AV)).set (0 + (i : Int).toNat) _ = _
      rw [Nat.zero_add, Int.toNat_natCast]
  · have hie : i = n := by omega
    have e1 : irows .i64 (F.take i) ++ List.replicate (n - i) ([.val (.int .i64 0)] : List AV) = irows .i64 F := by rw [hie, Nat.sub_self, List.take_of_length_le (by omega)]; exact List.append_nil _
    have e2 : irows .i64 (M.take i) ++ List.replicate (n - i) ([.val (.int .i64 0)] : List AV) = irows .i64 M := by rw [hie, Nat.sub_self, List.take_of_length_le (by omega)]; exact List.append_nil _
    rw [e1, e2, hie]
    conv => whnf
    first
      | refine caseb (fun _ => ?_) (fun h => absurd (of_decide_eq_false h) (by omega))
      | refine caseb (fun h => absurd (of_decide_eq_true h) (by omega)) (fun _ => ?_)
      | refine caseb (fun _ => ?_) (fun h => absurd (beq_eq_false_iff_ne.1 h) (by omega))
      | refine caseb (fun h => absurd (eq_of_beq h) (by omega)) (fun _ => ?_)
    conv => whnf
    refine ⟨⟨by show 0 + n ≤ (irows .i64 F).length; omega, by show 0 + n ≤ (irows .i64 M).length; omega⟩, _, hW, ?_⟩
    repeat
      conv => whnf
      first
        | refine ⟨_, by assumption, ?_⟩
        | refine ⟨(Nat.le_of_ble_eq_true rfl), _, by assumption, ?_⟩
        | refine ⟨by kernel_rfl, ?_⟩
        | exact rfl
        | exact ⟨Nat.le_of_ble_eq_true rfl, rfl⟩
        | refine ⟨by decide, ?_⟩
end
section

/-- How many are left along each axis, and from where. -/
def dropM (l sa : List Int) : List Int := List.zipWith (fun n d => max 0 (d - sizeI n)) l sa
def dropF (l : List Int) : List Int := l.map fun n => if 0 < n then sizeI n else 0
set_option maxRecDepth 20000 in
theorem Drop_ok (sh l sa : List Int) (ch : Bool) (tx : List Int) (na : List (Option (Rat × Nat))) (h1 : sh.length ≤ 1) (hI : ∀ n ∈ l, i64b n) (h0 : sa ≠ []) (hv : vS sa) (hl : l.length = sa.length) (sh' : List Int) (ch' : Bool) (tx' : List Int) (na' : List (Option (Rat × Nat))) (z : Bool) (e : Int)
    (hW : AC Try.prog 24 [AA sa ch tx na true, .sl 1 (irows .i64 sa) false, .sl 1 (irows .i64 (dropF l)) false, .sl 1 (irows .i64 (dropM l sa)) false] (.pure (.tup [AA sh' ch' tx' na' z, .val (.int .i64 e)]))) :
    AC Try.prog 9 [AA sh false [] (l.map intX) true, AA sa ch tx na true] (.pure (.tup [AA sh' ch' tx' na' z, .val (.int .i64 e)])) := by
  have hB := bounds_ok sh l sa ch tx na h1 hI h0 hv.1 hl
  have h8 := hv.1
  obtain ⟨n, hn⟩ : ∃ n, n = l.length := ⟨_, rfl⟩
  obtain ⟨M, hM⟩ : ∃ M, M = dropM l sa := ⟨_, rfl⟩
  obtain ⟨F, hF⟩ : ∃ F, F = dropF l := ⟨_, rfl⟩
  have lM : M.length = n := by rw [hM, hn]; unfold dropM; rw [List.length_zipWith]; omega
  have lF : F.length = n := by rw [hF, hn]; exact List.length_map _
  have hMi : ∀ i (h : i < l.length) (h' : i < sa.length), M[i]? = some (max 0 (sa[i] - sizeI l[i])) := fun i h h' => by
    rw [hM]
    unfold dropM
    rw [List.getElem?_zipWith, List.getElem?_eq_getElem h, List.getElem?_eq_getElem h']
  have hFi : ∀ i (h : i < l.length), F[i]? = some (if 0 < l[i] then sizeI l[i] else 0) := fun i h => by rw [hF]; unfold dropF; rw [List.getElem?_map, List.getElem?_eq_getElem h]; rfl
  rw [← hM, ← hF] at hW
  have lMr := irows_len .i64 M
  have lFr := irows_len .i64 F
  have fM : irows .i64 M = List.take n (List.drop 0 (irows .i64 M)) := by rw [List.drop_zero, List.take_of_length_le (by omega)]
  have fF : irows .i64 F = List.take n (List.drop 0 (irows .i64 F)) := by rw [List.drop_zero, List.take_of_length_le (by omega)]
  rw [fM, fF] at hW
  have lr := irows_len .i64 l
  have lsa := irows_len .i64 sa
  have e0 : (irows .i64 l).length = n := by omega
  have lfill : ∀ (Y : List Int), Y.length = n → ∀ i, i ≤ n → (irows .i64 (Y.take i) ++ List.replicate (n - i) ([.val (.int .i64 0)] : List AV)).length = n := fun Y hY i hi => by rw [List.length_append, irows_len, List.length_take, List.length_replicate]; omega
  refine AC.of_body TTok Try.func9 rfl (enter_of Try.func9 (by kernel_rfl) (by kernel_rfl)) (noid2 (AA_noid _ _ _ _ _) (AA_noid _ _ _ _ _)) (.tup _ (noid2 (AA_noid _ _ _ _ _) (.val _))) (Nat.le_of_ble_eq_true rfl) ?_
  unfold AA at *
  conv => whnf
  refine ⟨_, hB, ?_⟩
  conv => whnf
  refine ⟨⟨by omega, by omega, by show (((irows .i64 l).length : Nat) : Int) * ((8 : Nat) : Int) ≤ 140737488355328; omega⟩, ?_⟩
  conv => whnf
  refine ⟨⟨by omega, by omega, by show (((irows .i64 l).length : Nat) : Int) * ((8 : Nat) : Int) ≤ 140737488355328; omega⟩, ?_⟩
  conv => whnf
  refine ⟨by kernel_rfl, ?_⟩
  conv => whnf
  refine SW.loopM TTok (fun i : Nat => [(2, .lp 0 0), (3, .lp 8 0), (4, .lp 16 0), (5, .val (.int .i64 0)), (6, .sl 1 (irows .i64 l) false), (7, .sl 1 (irows .i64 sa) false), (9, .own 144 0 n), (10, .own 168 0 n), (30, .sl 1 (irows .i64 l) false), (31, .val (.int .i64 (n : Int))), (32, .val (.int .i64 (i : Int)))])
    (fun i => [(0, .cells 5 [[.sl 1 (irows .i64 sh) false, .val (.bool false), .sl 1 (irows .i32 []) false, .sl 3 ((l.map intX).map rowX) false, .val (.bool true)]]), (8, .cells 5 [[.sl 1 (irows .i64 sa) false, .val (.bool ch), .sl 1 (irows .i32 tx) false, .sl 3 (na.map rowX) false, .val (.bool true)]]), (16, .cells 5 [[.sl 0 [] true, .val (.bool false), .sl 0 [] true, .sl 0 [] true, .val (.bool false)]]), (144, .cells 1 (irows .i64 (F.take i) ++ List.replicate (n - i) ([.val (.int .i64 0)] : List AV))), (168, .cells 1 (irows .i64 (M.take i) ++ List.replicate (n - i) ([.val (.int .i64 0)] : List AV)))]) 216 63 rfl (fun i => n - i) (fun i => i ≤ n) 0 [] (Nat.zero_le _)
    ⟨⟨rfl, rfl⟩, ⟨rfl, rfl⟩, ⟨rfl, rfl⟩, ⟨rfl, rfl⟩, ⟨rfl, rfl⟩, ⟨rfl, rfl⟩, ⟨ownE rfl e0, rfl⟩, ⟨ownE rfl e0, rfl⟩, ⟨rfl, rfl⟩, ⟨valI (by rw [e0]), rfl⟩, ⟨rfl, rfl⟩, trivial⟩ ⟨⟨rfl, .inr ⟨rfl, rfl⟩⟩, ⟨rfl, .inr ⟨rfl, rfl⟩⟩, ⟨rfl, .inr ⟨rfl, rfl⟩⟩, ⟨rfl, .inl ⟨celE (by rw [List.take_zero, Nat.sub_zero]; exact congrArg (fun k => List.replicate k ([.val (.int .i64 0)] : List AV)) e0), nz2_noid _ _⟩⟩, ⟨rfl, .inl ⟨celE (by rw [List.take_zero, Nat.sub_zero]; exact congrArg (fun k => List.replicate k ([.val (.int .i64 0)] : List AV)) e0), nz2_noid _ _⟩⟩, trivial⟩ rfl ?_
  intro i hi
  have hi : i ≤ n := hi
  have lfF := lfill F lF i hi
  have lfM := lfill M lM i hi
  by_cases hlt : i < n
  · have hil : i < l.length := by omega
    have his : i < sa.length := by omega
    have eI : IntKind.i64.wrap ((i : Int) + 1) = ((i + 1 : Nat) : Int) := by rw [IntWalk.i64_in _ (by omega)]; omega
    have g1 := irows_get .i64 l (List.getElem?_eq_getElem hil)
    have g2 := irows_get .i64 sa (List.getElem?_eq_getElem his)
    have hm := hMi i hil his
    have hf := hFi i hil
    have d1 := hv.2.1 _ (List.getElem_mem his)
    have d2 := vS_dim hv (List.getElem_mem his)
    have hSz := size_ok l[i] (hI _ (List.getElem_mem hil))
    have sz := sizeI_nonneg l[i]
    obtain ⟨x, hx⟩ : ∃ x, x = l[i] := ⟨_, rfl⟩
    obtain ⟨d, hd⟩ : ∃ d, d = sa[i] := ⟨_, rfl⟩
    rw [← hx] at g1 hm hf hSz sz
    rw [← hd] at g2 hm d1 d2
    obtain ⟨y, hy⟩ : ∃ y, y = sizeI x := ⟨_, rfl⟩
    rw [← hy] at hm hf hSz sz
    have eM := fill2_set M n i (max 0 (d - y)) hlt lM hm
    have wd : IntKind.i64.wrap (d - y) = d - y := by rw [IntWalk.i64_in _ (by omega)]
    have em : (if d - y > 0 then d - y else 0) = max 0 (d - y) := by split <;> omega
    conv => whnf
    first
      | refine caseb (fun _ => ?_) (fun h => absurd (of_decide_eq_false h) (by omega))
      | refine caseb (fun h => absurd (of_decide_eq_true h) (by omega)) (fun _ => ?_)
      | refine caseb (fun _ => ?_) (fun h => absurd (beq_eq_false_iff_ne.1 h) (by omega))
      | refine caseb (fun h => absurd (eq_of_beq h) (by omega)) (fun _ => ?_)
    conv => whnf
    refine ⟨_, ⟨by omega, by rw [Int.toNat_natCast]; exact g1⟩, ?_⟩
    conv => whnf
    refine ⟨_, ⟨by omega, by rw [Int.toNat_natCast]; exact g2⟩, ?_⟩
    conv => whnf
    refine ⟨_, hSz, ?_⟩
    conv => whnf
    refine ⟨by omega, ?_⟩
    conv => whnf
    refine ⟨by rw [Nat.zero_add, Int.toNat_natCast]; show i < (irows .i64 (M.take i) ++ List.replicate (n - i) ([.val (.int .i64 0)] : List AV)).length; omega, ?_⟩
    conv => whnf
    refine ⟨by kernel_rfl, ?_⟩
    conv => whnf
    by_cases h0x : 0 < x
    · rw [if_pos h0x] at hf
      have eF := fill2_set F n i y hlt lF hf
      conv => whnf
      first
        | refine caseb (fun _ => ?_) (fun h => absurd (of_decide_eq_false h) (by omega))
        | refine caseb (fun h => absurd (of_decide_eq_true h) (by omega)) (fun _ => ?_)
        | refine caseb (fun _ => ?_) (fun h => absurd (beq_eq_false_iff_ne.1 h) (by omega))
        | refine caseb (fun h => absurd (eq_of_beq h) (by omega)) (fun _ => ?_)
      conv => whnf
      refine ⟨_, hSz, ?_⟩
      conv => whnf
      refine ⟨by omega, ?_⟩
      conv => whnf
      refine ⟨by rw [Nat.zero_add, Int.toNat_natCast]; show i < (irows .i64 (F.take i) ++ List.replicate (n - i) ([.val (.int .i64 0)] : List AV)).length; omega, ?_⟩
      conv => whnf
      refine ⟨i + 1, [], (by show n - (i + 1) < n - i; omega), hlt, ⟨⟨rfl, rfl⟩, ⟨rfl, rfl⟩, ⟨rfl, rfl⟩, ⟨rfl, rfl⟩, ⟨rfl, rfl⟩, ⟨rfl, rfl⟩, ⟨rfl, rfl⟩, ⟨rfl, rfl⟩, ⟨rfl, rfl⟩, ⟨rfl, rfl⟩, ⟨valI eI, rfl⟩, trivial⟩, ⟨⟨rfl, .inr ⟨rfl, rfl⟩⟩, ⟨rfl, .inr ⟨rfl, rfl⟩⟩, ⟨rfl, .inr ⟨rfl, rfl⟩⟩, ⟨rfl, .inl ⟨celE ?_, nz2_noid _ _⟩⟩, ⟨rfl, .inl ⟨celE ?_, nz2_noid _ _⟩⟩, trivial⟩, rfl⟩
      · rw [← eF]
        show (irows .i64 (F.take i) ++ List.replicate (n - i) ([.val (.int .i64 0)] : List AV)).set (0 + (i : Int).toNat) _ = _
        rw [Nat.zero_add, Int.toNat_natCast]
      · rw [← eM]
        show (irows .i64 (M.take i) ++ List.replicate (n - i) ([.val (.int .i64 0)] : List AV)).set (0 + (i : Int).toNat) [.val (.int .i64 (if IntKind.i64.wrap (d - y) > 0 then IntKind.i64.wrap (d - y) else 0))] = _
        rw [wd, em, Nat.zero_add, Int.toNat_natCast]
    · rw [if_neg h0x] at hf
      have eF := fill0 F n i hlt lF hf
      conv => whnf
      first
        | refine caseb (fun _ => ?_) (fun h => absurd (of_decide_eq_false h) (by omega))
        | refine caseb (fun h => absurd (of_decide_eq_true h) (by omega)) (fun _ => ?_)
        | refine caseb (fun _ => ?_) (fun h => absurd (beq_eq_false_iff_ne.1 h) (by omega))
        | refine caseb (fun h => absurd (eq_of_beq h) (by omega)) (fun _ => ?_)
      conv => whnf
      refine ⟨i + 1, [], (by show n - (i + 1) < n - i; omega), hlt, ⟨⟨rfl, rfl⟩, ⟨rfl, rfl⟩, ⟨rfl, rfl⟩, ⟨rfl, rfl⟩, ⟨rfl, rfl⟩, ⟨rfl, rfl⟩, ⟨rfl, rfl⟩, ⟨rfl, rfl⟩, ⟨rfl, rfl⟩, ⟨rfl, rfl⟩, ⟨valI eI, rfl⟩, trivial⟩, ⟨⟨rfl, .inr ⟨rfl, rfl⟩⟩, ⟨rfl, .inr ⟨rfl, rfl⟩⟩, ⟨rfl, .inr ⟨rfl, rfl⟩⟩, ⟨rfl, .inl ⟨celE eF, nz2_noid _ _⟩⟩, ⟨rfl, .inl ⟨celE ?_, nz2_noid _ _⟩⟩, trivial⟩, rfl⟩
      rw [← eM]
      show (irows .i64 (M.take i) ++ List.replicate (n - i) ([.val (.int .i64 0)] : List AV)).set (0 + (i : Int).toNat) [.val (.int .i64 (if IntKind.i64.wrap (d - y) > 0 then IntKind.i64.wrap (d - y) else 0))] = _
      rw [wd, em, Nat.zero_add, Int.toNat_natCast]
  · have hie : i = n := by omega
    have e1 : irows .i64 (F.take i) ++ List.replicate (n - i) ([.val (.int .i64 0)] : List AV) = irows .i64 F := by rw [hie, Nat.sub_self, List.take_of_length_le (by omega)]; exact List.append_nil _
    have e2 : irows .i64 (M.take i) ++ List.replicate (n - i) ([.val (.int .i64 0)] : List AV) = irows .i64 M := by rw [hie, Nat.sub_self, List.take_of_length_le (by omega)]; exact List.append_nil _
    rw [e1, e2, hie]
    conv => whnf
    first
      | refine caseb (fun _ => ?_) (fun h => absurd (of_decide_eq_false h) (by omega))
      | refine caseb (fun h => absurd (of_decide_eq_true h) (by omega)) (fun _ => ?_)
      | refine caseb (fun _ => ?_) (fun h => absurd (beq_eq_false_iff_ne.1 h) (by omega))
      | refine caseb (fun h => absurd (eq_of_beq h) (by omega)) (fun _ => ?_)
    conv => whnf
    refine ⟨⟨by show 0 + n ≤ (irows .i64 F).length; omega, by show 0 + n ≤ (irows .i64 M).length; omega⟩, _, hW, ?_⟩
    repeat
      conv => whnf
      first
        | refine ⟨_, by assumption, ?_⟩
        | refine ⟨(Nat.le_of_ble_eq_true rfl), _, by assumption, ?_⟩
        | refine ⟨by kernel_rfl, ?_⟩
        | exact rfl
        | exact ⟨Nat.le_of_ble_eq_true rfl, rfl⟩
        | refine ⟨by decide, ?_⟩
end
section

/-- The kind of two arrays, if they can be of one kind. -/
def alikeC (ca cb : Bool) (la lb : Nat) : Option Bool := if ca = cb then some ca else if lb = 0 then some ca else if la = 0 then some cb else none
theorem pick_none (c : Bool) (s : List Int) (hv : vS s) (hc : cntI s = 0) : AC Try.prog 51 [AA [0] c [] [] true, .sl 1 (irows .i64 s) false, .sl 0 [] true] (.pure (.tup [AA s c [] [] true, .val (.bool true)])) := by
  have h : AC Try.prog 51 [AA [0] c [] [] true, .sl 1 (irows .i64 s) false, .sl 1 (irows .i64 []) false] (.pure (.tup [AA s c [] [] true, .val (.bool true)])) := by
    cases c
    · exact PickN_ok [0] [] [] s [] hv hc (by decide)
    · exact PickT_ok [0] [] [] s [] hv hc (by decide)
  exact AC.le_args h rfl (fun i x y hx hy => by
    rcases i with _ | _ | _ | i
    · simp at hx hy; subst hx; subst hy; exact .refl _
    · simp at hx hy; subst hx; subst hy; exact .refl _
    · simp at hx hy; subst hx; subst hy; exact le_nil 1
    · simp at hx) (noid3 (AA_noid _ _ _ _ _) (noid_sl _ _ _) (.sl _ _ _ (fun r hr => nomatch hr)))
section
variable (sa sb : List Int) (ta tb : List Int) (na nb : List (Option (Rat × Nat)))
theorem alike_same (c : Bool) : AC Try.prog 36 [AA sa c ta na true, AA sb c tb nb true] (.pure (.tup [AA sa c ta na true, AA sb c tb nb true, .val (.bool true)])) := by
  have h1 := IsChar_ok sa c ta na true
  have h2 := IsChar_ok sb c tb nb true
  refine AC.of_body TTok Try.func36 rfl (enter_of Try.func36 (by kernel_rfl) (by kernel_rfl)) (noid2 (AA_noid _ _ _ _ _) (AA_noid _ _ _ _ _)) (.tup _ (noid3 (AA_noid _ _ _ _ _) (AA_noid _ _ _ _ _) (.val _))) (Nat.le_of_ble_eq_true rfl) ?_
  unfold AA at *
  cases c
  · repeat
      conv => whnf
      first
        | refine ⟨_, by assumption, ?_⟩
        | refine ⟨(Nat.le_of_ble_eq_true rfl), _, by assumption, ?_⟩
        | refine ⟨by kernel_rfl, ?_⟩
        | exact rfl
        | exact ⟨Nat.le_of_ble_eq_true rfl, rfl⟩
        | refine ⟨by decide, ?_⟩
  · repeat
      conv => whnf
      first
        | refine ⟨_, by assumption, ?_⟩
        | refine ⟨(Nat.le_of_ble_eq_true rfl), _, by assumption, ?_⟩
        | refine ⟨by kernel_rfl, ?_⟩
        | exact rfl
        | exact ⟨Nat.le_of_ble_eq_true rfl, rfl⟩
        | refine ⟨by decide, ?_⟩
theorem alike_b (ca cb : Bool) (hne : ca ≠ cb) (hv : vS sb) (hc : cntI sb = 0) : AC Try.prog 36 [AA sa ca ta na true, AA sb cb [] [] true] (.pure (.tup [AA sa ca ta na true, AA sb ca [] [] true, .val (.bool true)])) := by
  have h1 := IsChar_ok sa ca ta na true
  have h2 := IsChar_ok sb cb [] [] true
  have h3 := ALen_ok sb cb [] [] true (by decide) (by decide)
  have h4 := None_ok ca
  have h5 := Shape_ok sb cb [] [] (by have := hv.1; omega)
  have h6 := pick_none ca sb hv hc
  refine AC.of_body TTok Try.func36 rfl (enter_of Try.func36 (by kernel_rfl) (by kernel_rfl)) (noid2 (AA_noid _ _ _ _ _) (AA_noid _ _ _ _ _)) (.tup _ (noid3 (AA_noid _ _ _ _ _) (AA_noid _ _ _ _ _) (.val _))) (Nat.le_of_ble_eq_true rfl) ?_
  unfold AA at *
  cases ca
  · cases cb
    · exact absurd rfl hne
    · repeat
        conv => whnf
        first
          | refine ⟨_, by assumption, ?_⟩
          | refine ⟨(Nat.le_of_ble_eq_true rfl), _, by assumption, ?_⟩
          | refine ⟨by kernel_rfl, ?_⟩
          | exact rfl
          | exact ⟨Nat.le_of_ble_eq_true rfl, rfl⟩
          | refine ⟨by decide, ?_⟩
  · cases cb
    · repeat
        conv => whnf
        first
          | refine ⟨_, by assumption, ?_⟩
          | refine ⟨(Nat.le_of_ble_eq_true rfl), _, by assumption, ?_⟩
          | refine ⟨by kernel_rfl, ?_⟩
          | exact rfl
          | exact ⟨Nat.le_of_ble_eq_true rfl, rfl⟩
          | refine ⟨by decide, ?_⟩
    · exact absurd rfl hne
theorem alike_a (ca cb : Bool) (hne : ca ≠ cb) (hv : vS sa) (hc : cntI sa = 0) (hb : 0 < tb.length + nb.length) (h7 : tb.length ≤ 100000) (h8 : nb.length ≤ 100000) : AC Try.prog 36 [AA sa ca [] [] true, AA sb cb tb nb true] (.pure (.tup [AA sa cb [] [] true, AA sb cb tb nb true, .val (.bool true)])) := by
  have h1 := IsChar_ok sa ca [] [] true
  have h2 := IsChar_ok sb cb tb nb true
  have h3 := ALen_ok sb cb tb nb true (by omega) (by omega)
  have h3' := ALen_ok sa ca [] [] true (by decide) (by decide)
  have h4 := None_ok cb
  have h5 := Shape_ok sa ca [] [] (by have := hv.1; omega)
  have h6 := pick_none cb sa hv hc
  refine AC.of_body TTok Try.func36 rfl (enter_of Try.func36 (by kernel_rfl) (by kernel_rfl)) (noid2 (AA_noid _ _ _ _ _) (AA_noid _ _ _ _ _)) (.tup _ (noid3 (AA_noid _ _ _ _ _) (AA_noid _ _ _ _ _) (.val _))) (Nat.le_of_ble_eq_true rfl) ?_
  unfold AA at *
  cases ca
  · cases cb
    · exact absurd rfl hne
    · repeat
        conv => whnf
        first
          | refine ⟨_, by assumption, ?_⟩
          | refine ⟨(Nat.le_of_ble_eq_true rfl), _, by assumption, ?_⟩
          | refine ⟨by kernel_rfl, ?_⟩
          | exact rfl
          | exact ⟨Nat.le_of_ble_eq_true rfl, rfl⟩
          | refine ⟨by decide, ?_⟩
          | refine caseb (fun _ => ?_) (fun h => absurd (of_decide_eq_false h) (by omega))
          | refine caseb (fun h => absurd (of_decide_eq_true h) (by omega)) (fun _ => ?_)
          | refine caseb (fun _ => ?_) (fun h => absurd (beq_eq_false_iff_ne.1 h) (by omega))
          | refine caseb (fun h => absurd (eq_of_beq h) (by omega)) (fun _ => ?_)
          | refine caseb (fun h => absurd (bne_iff_ne.1 h) (by omega)) (fun _ => ?_)
          | refine caseb (fun _ => ?_) (fun h => absurd (bne_eq_false_iff_eq.1 h) (by omega))
  · cases cb
    · repeat
        conv => whnf
        first
          | refine ⟨_, by assumption, ?_⟩
          | refine ⟨(Nat.le_of_ble_eq_true rfl), _, by assumption, ?_⟩
          | refine ⟨by kernel_rfl, ?_⟩
          | exact rfl
          | exact ⟨Nat.le_of_ble_eq_true rfl, rfl⟩
          | refine ⟨by decide, ?_⟩
          | refine caseb (fun _ => ?_) (fun h => absurd (of_decide_eq_false h) (by omega))
          | refine caseb (fun h => absurd (of_decide_eq_true h) (by omega)) (fun _ => ?_)
          | refine caseb (fun _ => ?_) (fun h => absurd (beq_eq_false_iff_ne.1 h) (by omega))
          | refine caseb (fun h => absurd (eq_of_beq h) (by omega)) (fun _ => ?_)
          | refine caseb (fun h => absurd (bne_iff_ne.1 h) (by omega)) (fun _ => ?_)
          | refine caseb (fun _ => ?_) (fun h => absurd (bne_eq_false_iff_eq.1 h) (by omega))
    · exact absurd rfl hne
theorem alike_not (ca cb : Bool) (hne : ca ≠ cb) (ha : 0 < ta.length + na.length) (hb : 0 < tb.length + nb.length) (h5 : ta.length ≤ 100000) (h6 : na.length ≤ 100000) (h7 : tb.length ≤ 100000) (h8 : nb.length ≤ 100000) :
    AC Try.prog 36 [AA sa ca ta na true, AA sb cb tb nb true] (.pure (.tup [AA sa ca ta na true, AA sb cb tb nb true, .val (.bool false)])) := by
  have h1 := IsChar_ok sa ca ta na true
  have h2 := IsChar_ok sb cb tb nb true
  have h3 := ALen_ok sb cb tb nb true (by omega) (by omega)
  have h4 := ALen_ok sa ca ta na true (by omega) (by omega)
  refine AC.of_body TTok Try.func36 rfl (enter_of Try.func36 (by kernel_rfl) (by kernel_rfl)) (noid2 (AA_noid _ _ _ _ _) (AA_noid _ _ _ _ _)) (.tup _ (noid3 (AA_noid _ _ _ _ _) (AA_noid _ _ _ _ _) (.val _))) (Nat.le_of_ble_eq_true rfl) ?_
  unfold AA at *
  cases ca
  · cases cb
    · exact absurd rfl hne
    · repeat
        conv => whnf
        first
          | refine ⟨_, by assumption, ?_⟩
          | refine ⟨(Nat.le_of_ble_eq_true rfl), _, by assumption, ?_⟩
          | refine ⟨by kernel_rfl, ?_⟩
          | exact rfl
          | exact ⟨Nat.le_of_ble_eq_true rfl, rfl⟩
          | refine ⟨by decide, ?_⟩
          | refine caseb (fun _ => ?_) (fun h => absurd (of_decide_eq_false h) (by omega))
          | refine caseb (fun h => absurd (of_decide_eq_true h) (by omega)) (fun _ => ?_)
          | refine caseb (fun _ => ?_) (fun h => absurd (beq_eq_false_iff_ne.1 h) (by omega))
          | refine caseb (fun h => absurd (eq_of_beq h) (by omega)) (fun _ => ?_)
          | refine caseb (fun h => absurd (bne_iff_ne.1 h) (by omega)) (fun _ => ?_)
          | refine caseb (fun _ => ?_) (fun h => absurd (bne_eq_false_iff_eq.1 h) (by omega))
  · cases cb
    · repeat
        conv => whnf
        first
          | refine ⟨_, by assumption, ?_⟩
          | refine ⟨(Nat.le_of_ble_eq_true rfl), _, by assumption, ?_⟩
          | refine ⟨by kernel_rfl, ?_⟩
          | exact rfl
          | exact ⟨Nat.le_of_ble_eq_true rfl, rfl⟩
          | refine ⟨by decide, ?_⟩
          | refine caseb (fun _ => ?_) (fun h => absurd (of_decide_eq_false h) (by omega))
          | refine caseb (fun h => absurd (of_decide_eq_true h) (by omega)) (fun _ => ?_)
          | refine caseb (fun _ => ?_) (fun h => absurd (beq_eq_false_iff_ne.1 h) (by omega))
          | refine caseb (fun h => absurd (eq_of_beq h) (by omega)) (fun _ => ?_)
          | refine caseb (fun h => absurd (bne_iff_ne.1 h) (by omega)) (fun _ => ?_)
          | refine caseb (fun _ => ?_) (fun h => absurd (bne_eq_false_iff_eq.1 h) (by omega))
    · exact absurd rfl hne
theorem kinds_zero {s : List Int} {c : Bool} {a b : Nat} (h : kinds s c a b) (h0 : a + b = 0) : cntI s = 0 := by
  have := (kinds_len h).1
  omega
/-- What comes of two arrays' kinds (the program). -/
theorem alike_ok (ca cb : Bool) (va : vS sa) (vb : vS sb) (ka : kinds sa ca ta.length na.length) (kb : kinds sb cb tb.length nb.length) (h5 : ta.length ≤ 100000) (h6 : na.length ≤ 100000) (h7 : tb.length ≤ 100000) (h8 : nb.length ≤ 100000) :
    (∀ c, alikeC ca cb (ta.length + na.length) (tb.length + nb.length) = some c → AC Try.prog 36 [AA sa ca ta na true, AA sb cb tb nb true] (.pure (.tup [AA sa c ta na true, AA sb c tb nb true, .val (.bool true)]))) ∧
    (alikeC ca cb (ta.length + na.length) (tb.length + nb.length) = none → AC Try.prog 36 [AA sa ca ta na true, AA sb cb tb nb true] (.pure (.tup [AA sa ca ta na true, AA sb cb tb nb true, .val (.bool false)]))) := by
  unfold alikeC
  by_cases h1 : ca = cb
  · subst h1
    rw [if_pos rfl]
    exact ⟨fun c hc => by injection hc with hc; subst hc; exact alike_same sa sb ta tb na nb _, fun h => nomatch h⟩
  · rw [if_neg h1]
    by_cases h2 : tb.length + nb.length = 0
    · rw [if_pos h2]
      have e1 : tb = [] := List.length_eq_zero_iff.1 (by omega)
      have e2 : nb = [] := List.length_eq_zero_iff.1 (by omega)
      have hc0 := kinds_zero kb h2
      subst e1 e2
      exact ⟨fun c hc => by injection hc with hc; subst hc; exact alike_b sa sb ta na _ _ h1 vb hc0, fun h => nomatch h⟩
    · rw [if_neg h2]
      by_cases h3 : ta.length + na.length = 0
      · rw [if_pos h3]
        have e1 : ta = [] := List.length_eq_zero_iff.1 (by omega)
        have e2 : na = [] := List.length_eq_zero_iff.1 (by omega)
        have hc0 := kinds_zero ka h3
        subst e1 e2
        exact ⟨fun c hc => by injection hc with hc; subst hc; exact alike_a sa sb tb nb _ _ h1 va hc0 (by omega) h7 h8, fun h => nomatch h⟩
      · rw [if_neg h3]
        exact ⟨fun c hc => (nomatch hc), fun _ => alike_not sa sb ta tb na nb _ _ h1 (by omega) (by omega) h5 h6 h7 h8⟩
end
section
variable (sa sb : List Int) (ta tb : List Int) (qa qb : List Rat)
end
end
section

/-- What comes of laying arrays side by side: the error, the kind, the shape, the places. -/
abbrev JR := Int × Bool × List Int × List Int
def laidJ (c : Bool) (x y : List Int) (k la : Nat) (one two : Bool) : JR :=
  if vS (x.set k (x.getD k 0 + y.getD k 0)) then (0, c, x.set k (x.getD k 0 + y.getD k 0), (List.range (pr (x.set k (x.getD k 0 + y.getD k 0)))).map (atJ (x.getD k 0).toNat (y.getD k 0).toNat (pr (x.drop (k + 1))) la one two))
  else (26, false, [], [])
/-- The shape that both are made ready for. -/
def catS (sa sb : List Int) : List Int := if (if sa.length < sb.length then sb else sa) = [] then [1] else (if sa.length < sb.length then sb else sa)
def catK (s : List Int) (axis : Int) : Int := if axis < 0 then (s.length : Int) - 1 else axis
def catJ (ca cb : Bool) (la lb : Nat) (sa sb : List Int) (axis : Int) : JR :=
  match alikeC ca cb la lb with
  | none => (22, false, [], [])
  | some c =>
    if ((catS sa sb).length : Int) ≤ catK (catS sa sb) axis then (23, false, [], [])
    else if (fitJ sa (catS sa sb) (catK (catS sa sb) axis).toNat).2.2 ≠ 0 then ((fitJ sa (catS sa sb) (catK (catS sa sb) axis).toNat).2.2, false, [], [])
    else if (fitJ sb (catS sa sb) (catK (catS sa sb) axis).toNat).2.2 ≠ 0 then ((fitJ sb (catS sa sb) (catK (catS sa sb) axis).toNat).2.2, false, [], [])
    else laidJ c (fitJ sa (catS sa sb) (catK (catS sa sb) axis).toNat).1 (fitJ sb (catS sa sb) (catK (catS sa sb) axis).toNat).1 (catK (catS sa sb) axis).toNat la (decide (sa = [])) (decide (sb = []))
def lamS (sa sb : List Int) : List Int := if sa = [] then sb else sa
def lamJ (ca cb : Bool) (la lb : Nat) (sa sb : List Int) (axis : Int) : JR :=
  match alikeC ca cb la lb with
  | none => (22, false, [], [])
  | some c =>
    if axis < 0 ∨ ((lamS sa sb).length : Int) < axis ∨ (lamS sa sb).length = 8 then (23, false, [], [])
    else if sb ≠ [] ∧ sb.length ≠ (lamS sa sb).length then (23, false, [], [])
    else if sb ≠ [] ∧ sb ≠ lamS sa sb then (24, false, [], [])
    else laidJ c ((lamS sa sb).take axis.toNat ++ 1 :: (lamS sa sb).drop axis.toNat) ((lamS sa sb).take axis.toNat ++ 1 :: (lamS sa sb).drop axis.toNat) axis.toNat la (decide (sa = [])) (decide (sb = []))
/-- The program's array of it. -/
def resJ (r : JR) (ta tb : List Int) (na nb : List (Option (Rat × Nat))) : AV :=
  if r.1 = 0 then .tup [AA r.2.2.1 r.2.1 (if r.2.1 then r.2.2.2.map (getT (ta ++ tb)) else []) (if r.2.1 then [] else r.2.2.2.map (getX (na ++ nb))) true, .val (.int .i64 0)]
  else .tup [AA [] false [] [] false, .val (.int .i64 r.1)]
/-- The document's array of it. -/
def docR (r : JR) (ta tb : List Int) (qa qb : List Rat) : AV :=
  if r.1 = 0 then .tup [PA r.2.2.1 r.2.1 (if r.2.1 then r.2.2.2.map (getT (ta ++ tb)) else []) (if r.2.1 then [] else r.2.2.2.map (getQ (qa ++ qb))), .val (.int .i64 0)]
  else .tup [PA [] false [] [], .val (.int .i64 r.1)]
theorem resJ_noid (r : JR) (ta tb : List Int) (na nb : List (Option (Rat × Nat))) : NoId (resJ r ta tb na nb) := by
  unfold resJ
  split
  · exact .tup _ (noid2 (AA_noid _ _ _ _ _) (.val _))
  · exact .tup _ (noid2 (AA_noid _ _ _ _ _) (.val _))
theorem alike_kinds {ca cb c : Bool} {sa sb : List Int} {ta na tb nb : Nat} (h : alikeC ca cb (ta + na) (tb + nb) = some c) (ka : kinds sa ca ta na) (kb : kinds sb cb tb nb) : kinds sa c ta na ∧ kinds sb c tb nb := by
  unfold alikeC at h
  have za : ta + na = 0 → kinds sa c ta na := fun h0 => by
    have h1 := kinds_zero ka h0
    have e1 : ta = 0 := by omega
    have e2 : na = 0 := by omega
    subst e1 e2
    unfold kinds
    rw [h1]
    cases c <;> simp
  have zb : tb + nb = 0 → kinds sb c tb nb := fun h0 => by
    have h1 := kinds_zero kb h0
    have e1 : tb = 0 := by omega
    have e2 : nb = 0 := by omega
    subst e1 e2
    unfold kinds
    rw [h1]
    cases c <;> simp
  by_cases h1 : ca = cb
  · rw [if_pos h1] at h
    injection h with h
    subst h1; subst h
    exact ⟨ka, kb⟩
  · rw [if_neg h1] at h
    by_cases h2 : tb + nb = 0
    · rw [if_pos h2] at h
      injection h with h
      subst h
      exact ⟨ka, zb h2⟩
    · rw [if_neg h2] at h
      by_cases h3 : ta + na = 0
      · rw [if_pos h3] at h
        injection h with h
        subst h
        exact ⟨za h3, kb⟩
      · rw [if_neg h3] at h
        exact nomatch h
theorem catS_ok {sa sb : List Int} (va : vS sa) (vb : vS sb) : vS (catS sa sb) ∧ 0 < (catS sa sb).length := by
  have h1 : vS (if sa.length < sb.length then sb else sa) := by split <;> assumption
  unfold catS
  generalize (if sa.length < sb.length then sb else sa) = s at *
  by_cases h0 : s = []
  · rw [if_pos h0]; exact ⟨by decide, by decide⟩
  · rw [if_neg h0]; exact ⟨h1, List.length_pos_iff.2 h0⟩
end
section

/-- The program's. -/
theorem fits_ok (sh s : List Int) (k : Nat) (c : Bool) (tx : List Int) (ns : List (Option (Rat × Nat))) (hk : k < s.length) (hs : vS s) (hv : vS sh) :
    AC Try.prog 37 [AA sh c tx ns true, .sl 1 (irows .i64 s) false, .val (.int .i64 (k : Int))] (.pure (.tup [.sl 1 (irows .i64 (fitJ sh s k).1) false, .val (.bool (fitJ sh s k).2.1), .val (.int .i64 (fitJ sh s k).2.2)])) := by
  have h8 := hs.1
  have h8' := hv.1
  have ls := irows_len .i64 s
  have lsh := irows_len .i64 sh
  have hS := Shape_ok sh c tx ns (by omega)
  have hW := With_ok s k 1 hk (by omega)
  have nd := noid3 (AA_noid sh c tx ns true) (noid_sl .i64 s false) (NoId.val (.int .i64 (k : Int)))
  have nT : ∀ (l : List Int) (b : Bool) (e : Int), NoId (.tup [.sl 1 (irows .i64 l) false, .val (.bool b), .val (.int .i64 e)]) := fun l b e => .tup _ (noid3 (noid_sl _ _ _) (.val _) (.val _))
  have nZ : ∀ (b : Bool) (e : Int), NoId (.tup [.sl 0 [] true, .val (.bool b), .val (.int .i64 e)]) := fun b e => .tup _ (noid3 (.sl _ _ _ (fun r hr => nomatch hr)) (.val _) (.val _))
  have eS : IntKind.i64.wrap (((irows .i64 s).length : Int) - 1) = (s.length : Int) - 1 := by rw [IntWalk.i64_in _ (by omega)]; omega
  by_cases h0 : sh = []
  · have e : fitJ sh s k = (s.set k 1, true, 0) := if_pos h0
    rw [e]
    have : sh.length = 0 := by rw [h0]; rfl
    refine AC.of_body TTok Try.func37 rfl (enter_of Try.func37 (by kernel_rfl) (by kernel_rfl)) nd (nT _ _ _) (Nat.le_of_ble_eq_true rfl) ?_
    unfold AA at *
    conv => whnf
    refine ⟨_, hS, ?_⟩
    conv => whnf
    first
      | refine caseb (fun _ => ?_) (fun h => absurd (of_decide_eq_false h) (by omega))
      | refine caseb (fun h => absurd (of_decide_eq_true h) (by omega)) (fun _ => ?_)
      | refine caseb (fun _ => ?_) (fun h => absurd (beq_eq_false_iff_ne.1 h) (by omega))
      | refine caseb (fun h => absurd (eq_of_beq h) (by omega)) (fun _ => ?_)
    conv => whnf
    refine ⟨_, hW, ?_⟩
    repeat
      conv => whnf
      first
        | refine ⟨_, by assumption, ?_⟩
        | refine ⟨(Nat.le_of_ble_eq_true rfl), _, by assumption, ?_⟩
        | refine ⟨by kernel_rfl, ?_⟩
        | exact rfl
        | exact ⟨Nat.le_of_ble_eq_true rfl, rfl⟩
        | refine ⟨by decide, ?_⟩
  · have hne : sh.length ≠ 0 := fun h => h0 (List.length_eq_zero_iff.1 h)
    obtain ⟨own, ho⟩ : ∃ own, own = if sh.length + 1 = s.length then sh.take k ++ 1 :: sh.drop k else sh := ⟨_, rfl⟩
    have e : fitJ sh s k = if own.length ≠ s.length then ([], false, 23) else if own.take k ++ own.drop (k + 1) ≠ s.take k ++ s.drop (k + 1) then ([], false, 24) else (own, false, 0) := by
      rw [ho]; exact if_neg h0
    by_cases h1 : own.length ≠ s.length
    · rw [if_pos h1] at e
      rw [e]
      have hsh : sh.length + 1 ≠ s.length := fun h => by
        rw [if_pos h] at ho
        rw [ho, ins_len (by omega)] at h1
        exact h1 h
      rw [if_neg hsh] at ho
      subst ho
      refine AC.le_res (?_ : AC Try.prog 37 _ (.pure (.tup [.sl 0 [] true, .val (.bool false), .val (.int .i64 23)]))) (.tup3 (le_nil 1) (.refl _) (.refl _)) (nT _ _ _)
      refine AC.of_body TTok Try.func37 rfl (enter_of Try.func37 (by kernel_rfl) (by kernel_rfl)) nd (nZ _ _) (Nat.le_of_ble_eq_true rfl) ?_
      unfold AA at *
      conv => whnf
      refine ⟨_, hS, ?_⟩
      conv => whnf
      first
        | refine caseb (fun _ => ?_) (fun h => absurd (of_decide_eq_false h) (by omega))
        | refine caseb (fun h => absurd (of_decide_eq_true h) (by omega)) (fun _ => ?_)
        | refine caseb (fun _ => ?_) (fun h => absurd (beq_eq_false_iff_ne.1 h) (by omega))
        | refine caseb (fun h => absurd (eq_of_beq h) (by omega)) (fun _ => ?_)
      conv => whnf
      first
        | refine caseb (fun _ => ?_) (fun h => absurd (of_decide_eq_false h) (by omega))
        | refine caseb (fun h => absurd (of_decide_eq_true h) (by omega)) (fun _ => ?_)
        | refine caseb (fun _ => ?_) (fun h => absurd (beq_eq_false_iff_ne.1 h) (by omega))
        | refine caseb (fun h => absurd (eq_of_beq h) (by omega)) (fun _ => ?_)
      conv => whnf
      first
        | refine caseb (fun h => absurd (bne_iff_ne.1 h) (by omega)) (fun _ => ?_)
        | refine caseb (fun _ => ?_) (fun h => absurd (bne_eq_false_iff_eq.1 h) (by omega))
      repeat
        conv => whnf
        first
          | refine ⟨_, by assumption, ?_⟩
          | refine ⟨(Nat.le_of_ble_eq_true rfl), _, by assumption, ?_⟩
          | refine ⟨by kernel_rfl, ?_⟩
          | exact rfl
          | exact ⟨Nat.le_of_ble_eq_true rfl, rfl⟩
          | refine ⟨by decide, ?_⟩
    · have h1' : own.length = s.length := Decidable.byContradiction h1
      rw [if_neg h1] at e
      have w1 := Without_ok own k (by omega) (by omega)
      have w2 := Without_ok s k hk (by omega)
      have hE := ShSame_ok (own.take k ++ own.drop (k + 1)) (s.take k ++ s.drop (k + 1)) (by simp; omega) (by simp; omega)
      have n1 : NoId (.sl 1 (List.drop 0 (List.take (k : Int).toNat (irows .i64 sh))) false) := by rw [Int.toNat_natCast, List.drop_zero, irows_take]; exact noid_sl _ _ _
      have n3 : NoId (.sl 1 (List.drop (k : Int).toNat (List.take (irows .i64 sh).length (irows .i64 sh))) false) := by rw [Int.toNat_natCast, List.take_length, irows_drop]; exact noid_sl _ _ _
      have hJ : sh.length + 1 = s.length → AC Try.prog 65 [.sl 1 [[.sl 1 (List.drop 0 (List.take (k : Int).toNat (irows .i64 sh))) false], [.sl 1 [[.val (.int .i64 1)]] false], [.sl 1 (List.drop (k : Int).toNat (List.take (irows .i64 sh).length (irows .i64 sh))) false]] false] (.pure (.sl 1 (irows .i64 own) false)) := fun h3 => by
        rw [if_pos h3] at ho
        have hc := ShJoin_ok [sh.take k, [1], sh.drop k] (by show 3 ≤ 1000; omega) (by simp; omega)
        rw [show [sh.take k, [1], sh.drop k].flatten = own by rw [ho]; simp] at hc
        rw [Int.toNat_natCast, List.drop_zero, irows_take, List.take_length, irows_drop]
        exact hc
      by_cases h2 : own.take k ++ own.drop (k + 1) = s.take k ++ s.drop (k + 1)
      · rw [if_neg (fun h => h h2)] at e
        rw [decide_eq_true h2] at hE
        rw [e]
        refine AC.of_body TTok Try.func37 rfl (enter_of Try.func37 (by kernel_rfl) (by kernel_rfl)) nd (nT _ _ _) (Nat.le_of_ble_eq_true rfl) ?_
        by_cases h3 : sh.length + 1 = s.length
        · rw [if_pos h3] at ho
          unfold AA at *
          conv => whnf
          refine ⟨_, hS, ?_⟩
          conv => whnf
          first
            | refine caseb (fun _ => ?_) (fun h => absurd (of_decide_eq_false h) (by omega))
            | refine caseb (fun h => absurd (of_decide_eq_true h) (by omega)) (fun _ => ?_)
            | refine caseb (fun _ => ?_) (fun h => absurd (beq_eq_false_iff_ne.1 h) (by omega))
            | refine caseb (fun h => absurd (eq_of_beq h) (by omega)) (fun _ => ?_)
          conv => whnf
          first
            | refine caseb (fun _ => ?_) (fun h => absurd (of_decide_eq_false h) (by omega))
            | refine caseb (fun h => absurd (of_decide_eq_true h) (by omega)) (fun _ => ?_)
            | refine caseb (fun _ => ?_) (fun h => absurd (beq_eq_false_iff_ne.1 h) (by omega))
            | refine caseb (fun h => absurd (eq_of_beq h) (by omega)) (fun _ => ?_)
          conv => whnf
          refine ⟨by omega, ?_⟩
          conv => whnf
          refine ⟨by omega, ?_⟩
          conv => whnf
          refine ⟨⟨Nat.le_refl _, noid3 n1 (noid_sl .i64 [1] false) n3⟩, ?_⟩
          conv => whnf
          refine ⟨(Nat.le_of_ble_eq_true rfl), _, (hJ h3), ?_⟩
          conv => whnf
          refine ⟨by kernel_rfl, ?_⟩
          conv => whnf
          refine ⟨_, w1, ?_⟩
          conv => whnf
          refine ⟨_, w2, ?_⟩
          conv => whnf
          refine ⟨_, hE, ?_⟩
          repeat
            conv => whnf
            first
              | refine ⟨_, by assumption, ?_⟩
              | refine ⟨(Nat.le_of_ble_eq_true rfl), _, by assumption, ?_⟩
              | refine ⟨by kernel_rfl, ?_⟩
              | exact rfl
              | exact ⟨Nat.le_of_ble_eq_true rfl, rfl⟩
              | refine ⟨by decide, ?_⟩
        · rw [if_neg h3] at ho
          subst ho
          unfold AA at *
          conv => whnf
          refine ⟨_, hS, ?_⟩
          conv => whnf
          first
            | refine caseb (fun _ => ?_) (fun h => absurd (of_decide_eq_false h) (by omega))
            | refine caseb (fun h => absurd (of_decide_eq_true h) (by omega)) (fun _ => ?_)
            | refine caseb (fun _ => ?_) (fun h => absurd (beq_eq_false_iff_ne.1 h) (by omega))
            | refine caseb (fun h => absurd (eq_of_beq h) (by omega)) (fun _ => ?_)
          conv => whnf
          first
            | refine caseb (fun _ => ?_) (fun h => absurd (of_decide_eq_false h) (by omega))
            | refine caseb (fun h => absurd (of_decide_eq_true h) (by omega)) (fun _ => ?_)
            | refine caseb (fun _ => ?_) (fun h => absurd (beq_eq_false_iff_ne.1 h) (by omega))
            | refine caseb (fun h => absurd (eq_of_beq h) (by omega)) (fun _ => ?_)
          conv => whnf
          first
            | refine caseb (fun h => absurd (bne_iff_ne.1 h) (by omega)) (fun _ => ?_)
            | refine caseb (fun _ => ?_) (fun h => absurd (bne_eq_false_iff_eq.1 h) (by omega))
          conv => whnf
          refine ⟨_, w1, ?_⟩
          conv => whnf
          refine ⟨_, w2, ?_⟩
          conv => whnf
          refine ⟨_, hE, ?_⟩
          repeat
            conv => whnf
            first
              | refine ⟨_, by assumption, ?_⟩
              | refine ⟨(Nat.le_of_ble_eq_true rfl), _, by assumption, ?_⟩
              | refine ⟨by kernel_rfl, ?_⟩
              | exact rfl
              | exact ⟨Nat.le_of_ble_eq_true rfl, rfl⟩
              | refine ⟨by decide, ?_⟩
      · rw [if_pos h2] at e
        rw [decide_eq_false h2] at hE
        rw [e]
        refine AC.le_res (?_ : AC Try.prog 37 _ (.pure (.tup [.sl 0 [] true, .val (.bool false), .val (.int .i64 24)]))) (.tup3 (le_nil 1) (.refl _) (.refl _)) (nT _ _ _)
        refine AC.of_body TTok Try.func37 rfl (enter_of Try.func37 (by kernel_rfl) (by kernel_rfl)) nd (nZ _ _) (Nat.le_of_ble_eq_true rfl) ?_
        by_cases h3 : sh.length + 1 = s.length
        · rw [if_pos h3] at ho
          unfold AA at *
          conv => whnf
          refine ⟨_, hS, ?_⟩
          conv => whnf
          first
            | refine caseb (fun _ => ?_) (fun h => absurd (of_decide_eq_false h) (by omega))
            | refine caseb (fun h => absurd (of_decide_eq_true h) (by omega)) (fun _ => ?_)
            | refine caseb (fun _ => ?_) (fun h => absurd (beq_eq_false_iff_ne.1 h) (by omega))
            | refine caseb (fun h => absurd (eq_of_beq h) (by omega)) (fun _ => ?_)
          conv => whnf
          first
            | refine caseb (fun _ => ?_) (fun h => absurd (of_decide_eq_false h) (by omega))
            | refine caseb (fun h => absurd (of_decide_eq_true h) (by omega)) (fun _ => ?_)
            | refine caseb (fun _ => ?_) (fun h => absurd (beq_eq_false_iff_ne.1 h) (by omega))
            | refine caseb (fun h => absurd (eq_of_beq h) (by omega)) (fun _ => ?_)
          conv => whnf
          refine ⟨by omega, ?_⟩
          conv => whnf
          refine ⟨by omega, ?_⟩
          conv => whnf
          refine ⟨⟨Nat.le_refl _, noid3 n1 (noid_sl .i64 [1] false) n3⟩, ?_⟩
          conv => whnf
          refine ⟨(Nat.le_of_ble_eq_true rfl), _, (hJ h3), ?_⟩
          conv => whnf
          refine ⟨by kernel_rfl, ?_⟩
          conv => whnf
          refine ⟨_, w1, ?_⟩
          conv => whnf
          refine ⟨_, w2, ?_⟩
          conv => whnf
          refine ⟨_, hE, ?_⟩
          repeat
            conv => whnf
            first
              | refine ⟨_, by assumption, ?_⟩
              | refine ⟨(Nat.le_of_ble_eq_true rfl), _, by assumption, ?_⟩
              | refine ⟨by kernel_rfl, ?_⟩
              | exact rfl
              | exact ⟨Nat.le_of_ble_eq_true rfl, rfl⟩
              | refine ⟨by decide, ?_⟩
        · rw [if_neg h3] at ho
          subst ho
          unfold AA at *
          conv => whnf
          refine ⟨_, hS, ?_⟩
          conv => whnf
          first
            | refine caseb (fun _ => ?_) (fun h => absurd (of_decide_eq_false h) (by omega))
            | refine caseb (fun h => absurd (of_decide_eq_true h) (by omega)) (fun _ => ?_)
            | refine caseb (fun _ => ?_) (fun h => absurd (beq_eq_false_iff_ne.1 h) (by omega))
            | refine caseb (fun h => absurd (eq_of_beq h) (by omega)) (fun _ => ?_)
          conv => whnf
          first
            | refine caseb (fun _ => ?_) (fun h => absurd (of_decide_eq_false h) (by omega))
            | refine caseb (fun h => absurd (of_decide_eq_true h) (by omega)) (fun _ => ?_)
            | refine caseb (fun _ => ?_) (fun h => absurd (beq_eq_false_iff_ne.1 h) (by omega))
            | refine caseb (fun h => absurd (eq_of_beq h) (by omega)) (fun _ => ?_)
          conv => whnf
          first
            | refine caseb (fun h => absurd (bne_iff_ne.1 h) (by omega)) (fun _ => ?_)
            | refine caseb (fun _ => ?_) (fun h => absurd (bne_eq_false_iff_eq.1 h) (by omega))
          conv => whnf
          refine ⟨_, w1, ?_⟩
          conv => whnf
          refine ⟨_, w2, ?_⟩
          conv => whnf
          refine ⟨_, hE, ?_⟩
          repeat
            conv => whnf
            first
              | refine ⟨_, by assumption, ?_⟩
              | refine ⟨(Nat.le_of_ble_eq_true rfl), _, by assumption, ?_⟩
              | refine ⟨by kernel_rfl, ?_⟩
              | exact rfl
              | exact ⟨Nat.le_of_ble_eq_true rfl, rfl⟩
              | refine ⟨by decide, ?_⟩
end
section

theorem tmod_nat (a b : Nat) : ((a : Int)).tmod (b : Int) = ((a % b : Nat) : Int) := by rw [Int.tmod_eq_emod_of_nonneg (Int.natCast_nonneg _), ← Int.natCast_emod]
theorem tdiv_nat (a b : Nat) : ((a : Int)).tdiv (b : Int) = ((a / b : Nat) : Int) := by rw [Int.tdiv_eq_ediv_of_nonneg (Int.natCast_nonneg _), ← Int.natCast_ediv]
theorem wrap_nat (a : Nat) (h : a < 9223372036854775808) : IntKind.i64.wrap (a : Int) = (a : Int) := IntWalk.i64_in _ (by omega)
/-- The steps of a place. -/
theorem place_first (o n K I j q : Nat) (h1 : o * n + K ≤ q) (h2 : q * I + j ≤ 5000) (hI : 0 < I) :
    IntKind.i64.wrap (IntKind.i64.wrap (IntKind.i64.wrap (IntKind.i64.wrap ((o : Int) * (n : Int)) + (K : Int)) * (I : Int)) + (j : Int)) = (((o * n + K) * I + j : Nat) : Int) := by
  have a1 : (o * n + K) * I ≤ q * I := Nat.mul_le_mul_right _ h1
  have a2 : q ≤ q * I := Nat.le_mul_of_pos_right _ hI
  rw [← Int.natCast_mul, wrap_nat _ (by omega), ← Int.natCast_add, wrap_nat _ (by omega), ← Int.natCast_mul, wrap_nat _ (by omega), ← Int.natCast_add, wrap_nat _ (by omega)]
theorem place_second (la o m n K I j q : Nat) (hn : n ≤ K) (h1 : o * m + K ≤ q + n) (h2 : q * I + j ≤ 5000) (hI : 0 < I) (hla : la ≤ 100000) (hb : o * m + K ≤ 100000) :
    IntKind.i64.wrap (IntKind.i64.wrap ((la : Int) + IntKind.i64.wrap (IntKind.i64.wrap (IntKind.i64.wrap (IntKind.i64.wrap ((o : Int) * (m : Int)) + (K : Int)) - (n : Int)) * (I : Int))) + (j : Int)) = ((la + (o * m + (K - n)) * I + j : Nat) : Int) := by
  have a1 : (o * m + (K - n)) * I ≤ q * I := Nat.mul_le_mul_right _ (by omega)
  have a2 : q ≤ q * I := Nat.le_mul_of_pos_right _ hI
  rw [← Int.natCast_mul, wrap_nat _ (by omega), ← Int.natCast_add, wrap_nat _ (by omega), show ((o * m + K : Nat) : Int) - (n : Int) = ((o * m + (K - n) : Nat) : Int) by omega, wrap_nat _ (by omega), ← Int.natCast_mul, wrap_nat _ (by omega), ← Int.natCast_add, wrap_nat _ (by omega), ← Int.natCast_add, wrap_nat _ (by omega)]
section
variable (c : Bool) (sa sb ta tb : List Int) (na nb : List (Option (Rat × Nat))) (u v : List Int) (n m : Nat)
theorem irows_mid (u v : List Int) (d : Int) : (irows .i64 (u ++ d :: v))[u.length]? = some [.val (.int .i64 d)] := by
  rw [← irows_append]
  exact (List.getElem?_append_right (by rw [irows_len]; exact Nat.le_refl _)).trans (by rw [irows_len, Nat.sub_self]; rfl)
theorem laid_bad (one two : Bool) (hn : vS (u ++ (n : Int) :: v)) (hm : vS (u ++ (m : Int) :: v)) (hs : ¬ vS (u ++ ((n + m : Nat) : Int) :: v)) :
    AC Try.prog 38 [AA sa c ta na true, AA sb c tb nb true, .sl 1 (irows .i64 (u ++ (n : Int) :: v)) false, .sl 1 (irows .i64 (u ++ (m : Int) :: v)) false, .val (.bool one), .val (.bool two), .val (.int .i64 (u.length : Int))] (.pure (.tup [AA [] false [] [] false, .val (.int .i64 26)])) := by
  have l8 := hn.1
  rw [List.length_append, List.length_cons] at l8
  have d1 := vS_dim hn (List.mem_append_right _ List.mem_cons_self)
  have d2 := vS_dim hm (List.mem_append_right _ List.mem_cons_self)
  have eS : IntKind.i64.wrap ((n : Int) + (m : Int)) = ((n + m : Nat) : Int) := by rw [← Int.natCast_add, wrap_nat _ (by omega)]
  have hW := With_ok (u ++ (n : Int) :: v) u.length (IntKind.i64.wrap ((n : Int) + (m : Int))) (by rw [List.length_append, List.length_cons]; omega) (by rw [List.length_append, List.length_cons]; omega)
  rw [set_mid', eS, ← eS] at hW
  have hC := Count_ok (u ++ ((n + m : Nat) : Int) :: v) (by rw [List.length_append, List.length_cons]; omega)
  rw [CNT_bad hs] at hC
  rw [← eS] at hC
  have g1 := irows_mid u v (n : Int)
  have g2 := irows_mid u v (m : Int)
  have lx := irows_len .i64 (u ++ (n : Int) :: v)
  have ly := irows_len .i64 (u ++ (m : Int) :: v)
  rw [List.length_append, List.length_cons] at lx ly
  have nd : ∀ x ∈ [AA sa c ta na true, AA sb c tb nb true, .sl 1 (irows .i64 (u ++ (n : Int) :: v)) false, .sl 1 (irows .i64 (u ++ (m : Int) :: v)) false, .val (.bool one), .val (.bool two), .val (.int .i64 (u.length : Int))], NoId x := by
    intro x hx
    simp only [List.mem_cons, List.not_mem_nil, or_false] at hx
    rcases hx with rfl | rfl | rfl | rfl | rfl | rfl | rfl
    · exact AA_noid _ _ _ _ _
    · exact AA_noid _ _ _ _ _
    · exact noid_sl _ _ _
    · exact noid_sl _ _ _
    · exact .val _
    · exact .val _
    · exact .val _
  refine AC.le_res (?_ : AC Try.prog 38 _ (.pure (.tup [AZ, .val (.int .i64 26)]))) (.tup2 AZ_le (.refl _)) (.tup _ (noid2 (AA_noid _ _ _ _ _) (.val _)))
  refine AC.of_body TTok Try.func38 rfl (enter_of Try.func38 (by kernel_rfl) (by kernel_rfl)) nd (.tup _ (noid2 AZ_noid (.val _))) (Nat.le_of_ble_eq_true rfl) ?_
  unfold AA AZ
  conv => whnf
  refine ⟨_, ⟨by omega, by rw [Int.toNat_natCast]; exact g1⟩, ?_⟩
  conv => whnf
  refine ⟨_, ⟨by omega, by rw [Int.toNat_natCast]; exact g2⟩, ?_⟩
  conv => whnf
  refine ⟨by kernel_rfl, ?_⟩
  conv => whnf
  refine ⟨_, hW, ?_⟩
  conv => whnf
  refine ⟨_, hC, ?_⟩
  repeat
    conv => whnf
    first
      | refine ⟨_, by assumption, ?_⟩
      | refine ⟨(Nat.le_of_ble_eq_true rfl), _, by assumption, ?_⟩
      | refine ⟨by kernel_rfl, ?_⟩
      | exact rfl
      | exact ⟨Nat.le_of_ble_eq_true rfl, rfl⟩
      | refine ⟨by decide, ?_⟩
theorem laid_good (one two : Bool) (sB : List Int) (tB : List Int) (nB : List (Option (Rat × Nat))) (T : List Int) (N : List (Option (Rat × Nat))) (hn : vS (u ++ (n : Int) :: v)) (hm : vS (u ++ (m : Int) :: v)) (hs : vS (u ++ ((n + m : Nat) : Int) :: v))
    (h1 : ta.length + na.length ≤ 100000)
    (hB : AC Try.prog 69 [AA sa c ta na true, AA sb c tb nb true] (.pure (AA sB c tB nB true)))
    (hP : AC Try.prog 51 [AA sB c tB nB true, .sl 1 (irows .i64 (u ++ ((n + m : Nat) : Int) :: v)) false, .sl 1 (irows .i64 ((List.range (pr (u ++ ((n + m : Nat) : Int) :: v))).map (atJ n m (pr v) (ta.length + na.length) one two))) false] (.pure (.tup [AA (u ++ ((n + m : Nat) : Int) :: v) c T N true, .val (.bool true)]))) :
    AC Try.prog 38 [AA sa c ta na true, AA sb c tb nb true, .sl 1 (irows .i64 (u ++ (n : Int) :: v)) false, .sl 1 (irows .i64 (u ++ (m : Int) :: v)) false, .val (.bool one), .val (.bool two), .val (.int .i64 (u.length : Int))] (.pure (.tup [AA (u ++ ((n + m : Nat) : Int) :: v) c T N true, .val (.int .i64 0)])) := by
  have l8 := hn.1
  rw [List.length_append, List.length_cons] at l8
  have d1 := vS_dim hn (List.mem_append_right _ List.mem_cons_self)
  have d2 := vS_dim hm (List.mem_append_right _ List.mem_cons_self)
  have eS : IntKind.i64.wrap ((n : Int) + (m : Int)) = ((n + m : Nat) : Int) := by rw [← Int.natCast_add, wrap_nat _ (by omega)]
  obtain ⟨s, hsd⟩ : ∃ s, s = u ++ ((n + m : Nat) : Int) :: v := ⟨_, rfl⟩
  have hpr : pr s = pr u * ((n + m) * pr v) := by rw [hsd, pr_append]; show pr u * ((((n + m : Nat) : Int)).toNat * pr v) = _; rw [Int.toNat_natCast]
  have lsl : s.length = u.length + (v.length + 1) := by rw [hsd, List.length_append, List.length_cons]
  have hW := With_ok (u ++ (n : Int) :: v) u.length (IntKind.i64.wrap ((n : Int) + (m : Int))) (by rw [List.length_append, List.length_cons]; omega) (by rw [List.length_append, List.length_cons]; omega)
  rw [set_mid', eS, ← hsd, ← eS] at hW
  rw [← hsd] at hs hP ⊢
  have hC := Count_ok s (by omega)
  rw [CNT_good hs, (vS_pr hs).1] at hC
  have p4 := (vS_pr hs).2
  have hSp := Split_ok s u.length (by omega) hs
  have e3 : pr (s.drop (u.length + 1)) = pr v := by rw [hsd, List.drop_append, List.drop_of_length_le (by omega), Nat.add_sub_cancel_left]; rfl
  rw [e3] at hSp
  have g1 := irows_mid u v (n : Int)
  have g2 := irows_mid u v (m : Int)
  have lx := irows_len .i64 (u ++ (n : Int) :: v)
  have ly := irows_len .i64 (u ++ (m : Int) :: v)
  rw [List.length_append, List.length_cons] at lx ly
  have nd : ∀ x ∈ [AA sa c ta na true, AA sb c tb nb true, .sl 1 (irows .i64 (u ++ (n : Int) :: v)) false, .sl 1 (irows .i64 (u ++ (m : Int) :: v)) false, .val (.bool one), .val (.bool two), .val (.int .i64 (u.length : Int))], NoId x := by
    intro x hx
    simp only [List.mem_cons, List.not_mem_nil, or_false] at hx
    rcases hx with rfl | rfl | rfl | rfl | rfl | rfl | rfl
    · exact AA_noid _ _ _ _ _
    · exact AA_noid _ _ _ _ _
    · exact noid_sl _ _ _
    · exact noid_sl _ _ _
    · exact .val _
    · exact .val _
    · exact .val _
  obtain ⟨Y, hY⟩ : ∃ Y, Y = (List.range (pr s)).map (atJ n m (pr v) (ta.length + na.length) one two) := ⟨_, rfl⟩
  have lY : Y.length = pr s := by rw [hY, List.length_map, List.length_range]
  have hYi : ∀ i (h : i < pr s), Y[i]'(by omega) = atJ n m (pr v) (ta.length + na.length) one two i := fun i h => by subst hY; rw [List.getElem_map, List.getElem_range]
  rw [← hY] at hP
  have lYr := irows_len .i64 Y
  have eP : irows .i64 Y = List.take (pr s) (List.drop 0 (irows .i64 Y)) := by rw [List.drop_zero, List.take_of_length_le (by omega)]
  rw [eP] at hP
  have hA := ALen_ok sa c ta na true (by omega) (by omega)
  refine AC.of_body TTok Try.func38 rfl (enter_of Try.func38 (by kernel_rfl) (by kernel_rfl)) nd (.tup _ (noid2 (AA_noid _ _ _ _ _) (.val _))) (Nat.le_of_ble_eq_true rfl) ?_
  unfold AA at *
  conv => whnf
  refine ⟨_, ⟨by omega, by rw [Int.toNat_natCast]; exact g1⟩, ?_⟩
  conv => whnf
  refine ⟨_, ⟨by omega, by rw [Int.toNat_natCast]; exact g2⟩, ?_⟩
  conv => whnf
  refine ⟨by kernel_rfl, ?_⟩
  conv => whnf
  refine ⟨_, hW, ?_⟩
  conv => whnf
  refine ⟨_, hC, ?_⟩
  conv => whnf
  refine ⟨_, hSp, ?_⟩
  conv => whnf
  refine ⟨⟨by decide, by omega, by show ((pr s : Nat) : Int) * ((8 : Nat) : Int) ≤ 140737488355328; omega⟩, ?_⟩
  conv => whnf
  refine SW.loopM TTok (fun i : Nat => [(4, .val (.bool one)), (5, .val (.bool two)), (7, .lp 0 0), (8, .lp 8 0), (14, .lp 16 0), (15, .val (.int .i64 0)), (16, .val (.int .i64 (n : Int))), (17, .val (.int .i64 (m : Int))), (18, .sl 1 (irows .i64 s) false), (23, .val (.int .i64 (pr v : Int))), (25, .own 344 0 i), (64, .val (.int .i64 (pr s : Int))), (65, .val (.int .i64 (i : Int)))])
    (fun i => [(0, .cells 5 [[.sl 1 (irows .i64 sa) false, .val (.bool c), .sl 1 (irows .i32 ta) false, .sl 3 (na.map rowX) false, .val (.bool true)]]), (8, .cells 5 [[.sl 1 (irows .i64 sb) false, .val (.bool c), .sl 1 (irows .i32 tb) false, .sl 3 (nb.map rowX) false, .val (.bool true)]]), (16, .cells 5 [[.sl 0 [] true, .val (.bool false), .sl 0 [] true, .sl 0 [] true, .val (.bool false)]]), (344, .cells 1 (irows .i64 (Y.take i)))]) 376 146 rfl (fun i => pr s - i) (fun i => i ≤ pr s) 0 [] (Nat.zero_le _)
    ⟨⟨rfl, rfl⟩, ⟨rfl, rfl⟩, ⟨rfl, rfl⟩, ⟨rfl, rfl⟩, ⟨rfl, rfl⟩, ⟨rfl, rfl⟩, ⟨rfl, rfl⟩, ⟨rfl, rfl⟩, ⟨rfl, rfl⟩, ⟨rfl, rfl⟩, ⟨rfl, rfl⟩, ⟨rfl, rfl⟩, ⟨rfl, rfl⟩, trivial⟩ ⟨⟨rfl, .inr ⟨rfl, rfl⟩⟩, ⟨rfl, .inr ⟨rfl, rfl⟩⟩, ⟨rfl, .inr ⟨rfl, rfl⟩⟩, ⟨rfl, .inr ⟨rfl, rfl⟩⟩, trivial⟩ rfl ?_
  intro i hJ
  have hi : i ≤ pr s := hJ
  clear hJ
  have lr : (irows .i64 (Y.take i)).length = i := by rw [irows_len, List.length_take]; omega
  by_cases hlt : i < pr s
  · have eI : IntKind.i64.wrap ((i : Int) + 1) = ((i + 1 : Nat) : Int) := by rw [IntWalk.i64_in _ (by omega)]; omega
    have hv0 : 0 < pr v := Nat.pos_of_ne_zero fun e => by rw [hpr, e] at hlt; omega
    have hL0 : 0 < n + m := Nat.pos_of_ne_zero fun e => by rw [hpr, e] at hlt; omega
    have hsn : irows .i64 (Y.take i) ++ [[.val (.int .i64 (atJ n m (pr v) (ta.length + na.length) one two i))]] = irows .i64 (Y.take (i + 1)) := by
      rw [take_snoc (show i < Y.length by omega), hYi i hlt, ← irows_append]; rfl
    have htk : List.take i (List.drop 0 (irows .i64 (Y.take i))) = irows .i64 (Y.take i) := by rw [List.drop_zero, List.take_of_length_le (by omega)]
    obtain ⟨q, hq⟩ : ∃ q, q = i / pr v := ⟨_, rfl⟩
    obtain ⟨K, hK⟩ : ∃ K, K = q % (n + m) := ⟨_, rfl⟩
    obtain ⟨o, ho⟩ : ∃ o, o = q / (n + m) := ⟨_, rfl⟩
    obtain ⟨j, hj⟩ : ∃ j, j = i % pr v := ⟨_, rfl⟩
    have q1 : q * pr v + j = i := by rw [hq, hj, Nat.mul_comm]; exact Nat.div_add_mod i (pr v)
    have q2 : o * (n + m) + K = q := by rw [ho, hK, Nat.mul_comm]; exact Nat.div_add_mod q (n + m)
    have q3 : q ≤ i := by rw [hq]; exact Nat.div_le_self _ _
    have o1 : o ≤ q := by rw [ho]; exact Nat.div_le_self _ _
    rw [Nat.mul_add] at q2
    have vJ : ((i : Int)).tmod (pr v : Int) = (j : Int) := by rw [tmod_nat, hj]
    have vQ : IntKind.i64.wrap (((i : Int)).tdiv (pr v : Int)) = (q : Int) := by rw [tdiv_nat, ← hq, wrap_nat _ (by omega)]
    have vK : (IntKind.i64.wrap (((i : Int)).tdiv (pr v : Int))).tmod (IntKind.i64.wrap ((n : Int) + (m : Int))) = (K : Int) := by rw [vQ, eS, tmod_nat, ← hK]
    have vO : IntKind.i64.wrap ((IntKind.i64.wrap (((i : Int)).tdiv (pr v : Int))).tdiv (IntKind.i64.wrap ((n : Int) + (m : Int)))) = (o : Int) := by rw [vQ, eS, tdiv_nat, ← ho, wrap_nat _ (by omega)]
    have aJ : atJ n m (pr v) (ta.length + na.length) one two i = if K < n then (if one then 0 else (((o * n + K) * pr v + j : Nat) : Int)) else (if two then ((ta.length + na.length : Nat) : Int) else ((ta.length + na.length + (o * m + (K - n)) * pr v + j : Nat) : Int)) := by
      unfold atJ; rw [← hq, ← hK, ← ho, ← hj]
    rw [aJ] at hsn
    by_cases hKn : K < n
    · rw [if_pos hKn] at hsn
      cases one
      · rw [if_neg Bool.false_ne_true] at hsn
        have P1 : IntKind.i64.wrap (IntKind.i64.wrap (IntKind.i64.wrap (IntKind.i64.wrap (IntKind.i64.wrap ((IntKind.i64.wrap (((i : Int)).tdiv (pr v : Int))).tdiv (IntKind.i64.wrap ((n : Int) + (m : Int)))) * (n : Int)) + (IntKind.i64.wrap (((i : Int)).tdiv (pr v : Int))).tmod (IntKind.i64.wrap ((n : Int) + (m : Int)))) * (pr v : Int)) + ((i : Int)).tmod (pr v : Int)) = (((o * n + K) * pr v + j : Nat) : Int) := by
          rw [vO, vK, vJ]; exact place_first o n K (pr v) j q (by omega) (by omega) hv0
        conv => whnf
        first
          | refine caseb (fun _ => ?_) (fun h => absurd (of_decide_eq_false h) (by omega))
          | refine caseb (fun h => absurd (of_decide_eq_true h) (by omega)) (fun _ => ?_)
          | refine caseb (fun _ => ?_) (fun h => absurd (beq_eq_false_iff_ne.1 h) (by omega))
          | refine caseb (fun h => absurd (eq_of_beq h) (by omega)) (fun _ => ?_)
        conv => whnf
        refine ⟨by omega, ?_⟩
        conv => whnf
        refine ⟨by omega, ?_⟩
        conv => whnf
        refine ⟨by rw [eS]; omega, ?_⟩
        conv => whnf
        refine ⟨by omega, ?_⟩
        conv => whnf
        refine ⟨by rw [eS]; omega, ?_⟩
        conv => whnf
        first
          | refine caseb (fun _ => ?_) (fun h => absurd (of_decide_eq_false h) (by omega))
          | refine caseb (fun h => absurd (of_decide_eq_true h) (by omega)) (fun _ => ?_)
          | refine caseb (fun _ => ?_) (fun h => absurd (beq_eq_false_iff_ne.1 h) (by omega))
          | refine caseb (fun h => absurd (eq_of_beq h) (by omega)) (fun _ => ?_)
        conv => whnf
        first
          | refine caseb (fun _ => ?_) (fun h => absurd (of_decide_eq_false h) (by omega))
          | refine caseb (fun h => absurd (of_decide_eq_true h) (by omega)) (fun _ => ?_)
          | refine caseb (fun _ => ?_) (fun h => absurd (beq_eq_false_iff_ne.1 h) (by omega))
          | refine caseb (fun h => absurd (eq_of_beq h) (by omega)) (fun _ => ?_)
        conv => whnf
        refine ⟨⟨by show 0 + i ≤ _; omega, by show (i + 1) * 8 ≤ 140737488355328; omega, Nat.le_of_ble_eq_true rfl⟩, ?_⟩
        conv => whnf
        refine ⟨i + 1, [(344, 736)], (by show pr s - (i + 1) < pr s - i; omega), hlt, ⟨⟨rfl, rfl⟩, ⟨rfl, rfl⟩, ⟨rfl, rfl⟩, ⟨rfl, rfl⟩, ⟨rfl, rfl⟩, ⟨rfl, rfl⟩, ⟨rfl, rfl⟩, ⟨rfl, rfl⟩, ⟨rfl, rfl⟩, ⟨rfl, rfl⟩, ⟨rfl, rfl⟩, ⟨rfl, rfl⟩, ⟨valI eI, rfl⟩, trivial⟩, ⟨⟨rfl, .inr ⟨rfl, rfl⟩⟩, ⟨rfl, .inr ⟨rfl, rfl⟩⟩, ⟨rfl, .inr ⟨rfl, rfl⟩⟩, ⟨rfl, .inl ⟨celE ?_, irows_noid _ _⟩⟩, trivial⟩, rfl⟩
        rw [← hsn]
        show List.take i (List.drop 0 (irows .i64 (Y.take i))) ++ [[.val (.int .i64 (IntKind.i64.wrap (IntKind.i64.wrap (IntKind.i64.wrap (IntKind.i64.wrap (IntKind.i64.wrap ((IntKind.i64.wrap (((i : Int)).tdiv (pr v : Int))).tdiv (IntKind.i64.wrap ((n : Int) + (m : Int)))) * (n : Int)) + (IntKind.i64.wrap (((i : Int)).tdiv (pr v : Int))).tmod (IntKind.i64.wrap ((n : Int) + (m : Int)))) * (pr v : Int)) + ((i : Int)).tmod (pr v : Int))))]] = _
        rw [htk, P1]
      · rw [if_pos rfl] at hsn
        conv => whnf
        first
          | refine caseb (fun _ => ?_) (fun h => absurd (of_decide_eq_false h) (by omega))
          | refine caseb (fun h => absurd (of_decide_eq_true h) (by omega)) (fun _ => ?_)
          | refine caseb (fun _ => ?_) (fun h => absurd (beq_eq_false_iff_ne.1 h) (by omega))
          | refine caseb (fun h => absurd (eq_of_beq h) (by omega)) (fun _ => ?_)
        conv => whnf
        refine ⟨by omega, ?_⟩
        conv => whnf
        refine ⟨by omega, ?_⟩
        conv => whnf
        refine ⟨by rw [eS]; omega, ?_⟩
        conv => whnf
        refine ⟨by omega, ?_⟩
        conv => whnf
        refine ⟨by rw [eS]; omega, ?_⟩
        conv => whnf
        first
          | refine caseb (fun _ => ?_) (fun h => absurd (of_decide_eq_false h) (by omega))
          | refine caseb (fun h => absurd (of_decide_eq_true h) (by omega)) (fun _ => ?_)
          | refine caseb (fun _ => ?_) (fun h => absurd (beq_eq_false_iff_ne.1 h) (by omega))
          | refine caseb (fun h => absurd (eq_of_beq h) (by omega)) (fun _ => ?_)
        conv => whnf
        refine ⟨⟨by show 0 + i ≤ _; omega, by show (i + 1) * 8 ≤ 140737488355328; omega, Nat.le_of_ble_eq_true rfl⟩, ?_⟩
        conv => whnf
        refine ⟨i + 1, [(344, 632)], (by show pr s - (i + 1) < pr s - i; omega), hlt, ⟨⟨rfl, rfl⟩, ⟨rfl, rfl⟩, ⟨rfl, rfl⟩, ⟨rfl, rfl⟩, ⟨rfl, rfl⟩, ⟨rfl, rfl⟩, ⟨rfl, rfl⟩, ⟨rfl, rfl⟩, ⟨rfl, rfl⟩, ⟨rfl, rfl⟩, ⟨rfl, rfl⟩, ⟨rfl, rfl⟩, ⟨valI eI, rfl⟩, trivial⟩, ⟨⟨rfl, .inr ⟨rfl, rfl⟩⟩, ⟨rfl, .inr ⟨rfl, rfl⟩⟩, ⟨rfl, .inr ⟨rfl, rfl⟩⟩, ⟨rfl, .inl ⟨celE ?_, irows_noid _ _⟩⟩, trivial⟩, rfl⟩
        rw [← hsn]
        show List.take i (List.drop 0 (irows .i64 (Y.take i))) ++ [[.val (.int .i64 (0))]] = _
        rw [htk]
    · rw [if_neg hKn] at hsn
      cases two
      · rw [if_neg Bool.false_ne_true] at hsn
        have P2 : IntKind.i64.wrap (IntKind.i64.wrap (((ta.length + na.length : Nat) : Int) + IntKind.i64.wrap (IntKind.i64.wrap (IntKind.i64.wrap (IntKind.i64.wrap (IntKind.i64.wrap ((IntKind.i64.wrap (((i : Int)).tdiv (pr v : Int))).tdiv (IntKind.i64.wrap ((n : Int) + (m : Int)))) * (m : Int)) + (IntKind.i64.wrap (((i : Int)).tdiv (pr v : Int))).tmod (IntKind.i64.wrap ((n : Int) + (m : Int)))) - (n : Int)) * (pr v : Int))) + ((i : Int)).tmod (pr v : Int)) = ((ta.length + na.length + (o * m + (K - n)) * pr v + j : Nat) : Int) := by
          rw [vO, vK, vJ]; exact place_second _ o m n K (pr v) j q (by omega) (by omega) (by omega) hv0 h1 (by omega)
        conv => whnf
        first
          | refine caseb (fun _ => ?_) (fun h => absurd (of_decide_eq_false h) (by omega))
          | refine caseb (fun h => absurd (of_decide_eq_true h) (by omega)) (fun _ => ?_)
          | refine caseb (fun _ => ?_) (fun h => absurd (beq_eq_false_iff_ne.1 h) (by omega))
          | refine caseb (fun h => absurd (eq_of_beq h) (by omega)) (fun _ => ?_)
        conv => whnf
        refine ⟨by omega, ?_⟩
        conv => whnf
        refine ⟨by omega, ?_⟩
        conv => whnf
        refine ⟨by rw [eS]; omega, ?_⟩
        conv => whnf
        refine ⟨by omega, ?_⟩
        conv => whnf
        refine ⟨by rw [eS]; omega, ?_⟩
        conv => whnf
        first
          | refine caseb (fun _ => ?_) (fun h => absurd (of_decide_eq_false h) (by omega))
          | refine caseb (fun h => absurd (of_decide_eq_true h) (by omega)) (fun _ => ?_)
          | refine caseb (fun _ => ?_) (fun h => absurd (beq_eq_false_iff_ne.1 h) (by omega))
          | refine caseb (fun h => absurd (eq_of_beq h) (by omega)) (fun _ => ?_)
        conv => whnf
        first
          | refine caseb (fun _ => ?_) (fun h => absurd (of_decide_eq_false h) (by omega))
          | refine caseb (fun h => absurd (of_decide_eq_true h) (by omega)) (fun _ => ?_)
          | refine caseb (fun _ => ?_) (fun h => absurd (beq_eq_false_iff_ne.1 h) (by omega))
          | refine caseb (fun h => absurd (eq_of_beq h) (by omega)) (fun _ => ?_)
        conv => whnf
        refine ⟨_, hA, ?_⟩
        conv => whnf
        refine ⟨⟨by show 0 + i ≤ _; omega, by show (i + 1) * 8 ≤ 140737488355328; omega, Nat.le_of_ble_eq_true rfl⟩, ?_⟩
        conv => whnf
        refine ⟨i + 1, [(344, 792)], (by show pr s - (i + 1) < pr s - i; omega), hlt, ⟨⟨rfl, rfl⟩, ⟨rfl, rfl⟩, ⟨rfl, rfl⟩, ⟨rfl, rfl⟩, ⟨rfl, rfl⟩, ⟨rfl, rfl⟩, ⟨rfl, rfl⟩, ⟨rfl, rfl⟩, ⟨rfl, rfl⟩, ⟨rfl, rfl⟩, ⟨rfl, rfl⟩, ⟨rfl, rfl⟩, ⟨valI eI, rfl⟩, trivial⟩, ⟨⟨rfl, .inr ⟨rfl, rfl⟩⟩, ⟨rfl, .inr ⟨rfl, rfl⟩⟩, ⟨rfl, .inr ⟨rfl, rfl⟩⟩, ⟨rfl, .inl ⟨celE ?_, irows_noid _ _⟩⟩, trivial⟩, rfl⟩
        rw [← hsn]
        show List.take i (List.drop 0 (irows .i64 (Y.take i))) ++ [[.val (.int .i64 (IntKind.i64.wrap (IntKind.i64.wrap (((ta.length + na.length : Nat) : Int) + IntKind.i64.wrap (IntKind.i64.wrap (IntKind.i64.wrap (IntKind.i64.wrap (IntKind.i64.wrap ((IntKind.i64.wrap (((i : Int)).tdiv (pr v : Int))).tdiv (IntKind.i64.wrap ((n : Int) + (m : Int)))) * (m : Int)) + (IntKind.i64.wrap (((i : Int)).tdiv (pr v : Int))).tmod (IntKind.i64.wrap ((n : Int) + (m : Int)))) - (n : Int)) * (pr v : Int))) + ((i : Int)).tmod (pr v : Int))))]] = _
        rw [htk, P2]
      · rw [if_pos rfl] at hsn
        conv => whnf
        first
          | refine caseb (fun _ => ?_) (fun h => absurd (of_decide_eq_false h) (by omega))
          | refine caseb (fun h => absurd (of_decide_eq_true h) (by omega)) (fun _ => ?_)
          | refine caseb (fun _ => ?_) (fun h => absurd (beq_eq_false_iff_ne.1 h) (by omega))
          | refine caseb (fun h => absurd (eq_of_beq h) (by omega)) (fun _ => ?_)
        conv => whnf
        refine ⟨by omega, ?_⟩
        conv => whnf
        refine ⟨by omega, ?_⟩
        conv => whnf
        refine ⟨by rw [eS]; omega, ?_⟩
        conv => whnf
        refine ⟨by omega, ?_⟩
        conv => whnf
        refine ⟨by rw [eS]; omega, ?_⟩
        conv => whnf
        first
          | refine caseb (fun _ => ?_) (fun h => absurd (of_decide_eq_false h) (by omega))
          | refine caseb (fun h => absurd (of_decide_eq_true h) (by omega)) (fun _ => ?_)
          | refine caseb (fun _ => ?_) (fun h => absurd (beq_eq_false_iff_ne.1 h) (by omega))
          | refine caseb (fun h => absurd (eq_of_beq h) (by omega)) (fun _ => ?_)
        conv => whnf
        first
          | refine caseb (fun _ => ?_) (fun h => absurd (of_decide_eq_false h) (by omega))
          | refine caseb (fun h => absurd (of_decide_eq_true h) (by omega)) (fun _ => ?_)
          | refine caseb (fun _ => ?_) (fun h => absurd (beq_eq_false_iff_ne.1 h) (by omega))
          | refine caseb (fun h => absurd (eq_of_beq h) (by omega)) (fun _ => ?_)
        conv => whnf
        refine ⟨_, hA, ?_⟩
        conv => whnf
        refine ⟨⟨by show 0 + i ≤ _; omega, by show (i + 1) * 8 ≤ 140737488355328; omega, Nat.le_of_ble_eq_true rfl⟩, ?_⟩
        conv => whnf
        refine ⟨i + 1, [(344, 696)], (by show pr s - (i + 1) < pr s - i; omega), hlt, ⟨⟨rfl, rfl⟩, ⟨rfl, rfl⟩, ⟨rfl, rfl⟩, ⟨rfl, rfl⟩, ⟨rfl, rfl⟩, ⟨rfl, rfl⟩, ⟨rfl, rfl⟩, ⟨rfl, rfl⟩, ⟨rfl, rfl⟩, ⟨rfl, rfl⟩, ⟨rfl, rfl⟩, ⟨rfl, rfl⟩, ⟨valI eI, rfl⟩, trivial⟩, ⟨⟨rfl, .inr ⟨rfl, rfl⟩⟩, ⟨rfl, .inr ⟨rfl, rfl⟩⟩, ⟨rfl, .inr ⟨rfl, rfl⟩⟩, ⟨rfl, .inl ⟨celE ?_, irows_noid _ _⟩⟩, trivial⟩, rfl⟩
        rw [← hsn]
        show List.take i (List.drop 0 (irows .i64 (Y.take i))) ++ [[.val (.int .i64 (((ta.length + na.length : Nat) : Int)))]] = _
        rw [htk]
  · have hie : i = pr s := by omega
    have e1 : Y.take i = Y := List.take_of_length_le (by omega)
    rw [e1] at lr ⊢
    subst hie
    conv => whnf
    first
      | refine caseb (fun _ => ?_) (fun h => absurd (of_decide_eq_false h) (by omega))
      | refine caseb (fun h => absurd (of_decide_eq_true h) (by omega)) (fun _ => ?_)
      | refine caseb (fun _ => ?_) (fun h => absurd (beq_eq_false_iff_ne.1 h) (by omega))
      | refine caseb (fun h => absurd (eq_of_beq h) (by omega)) (fun _ => ?_)
    conv => whnf
    refine ⟨_, hB, ?_⟩
    conv => whnf
    refine ⟨by show 0 + pr s ≤ _; omega, _, hP, ?_⟩
    repeat
      conv => whnf
      first
        | refine ⟨_, by assumption, ?_⟩
        | refine ⟨(Nat.le_of_ble_eq_true rfl), _, by assumption, ?_⟩
        | refine ⟨by kernel_rfl, ?_⟩
        | exact rfl
        | exact ⟨Nat.le_of_ble_eq_true rfl, rfl⟩
        | refine ⟨by decide, ?_⟩
end
end
section

end
section

section
variable (c : Bool) (sa sb ta tb : List Int) (qa qb : List Rat) (u v : List Int) (n m : Nat)
end
end
section

theorem two_mid {x y : List Int} {k : Nat} (hk : k < x.length) (hxy : y.length = x.length) (ht : y.take k = x.take k) (hd : y.drop (k + 1) = x.drop (k + 1)) (hx : vS x) (hy : vS y) :
    ∃ (u v : List Int) (n m : Nat), u.length = k ∧ x = u ++ (n : Int) :: v ∧ y = u ++ (m : Int) :: v := by
  refine ⟨x.take k, x.drop (k + 1), x[k].toNat, (y[k]'(by omega)).toNat, by rw [List.length_take]; omega, ?_, ?_⟩
  · rw [Int.toNat_of_nonneg (hx.2.1 _ (List.getElem_mem _))]; exact mid_split hk
  · rw [Int.toNat_of_nonneg (hy.2.1 _ (List.getElem_mem _)), ← ht, ← hd]; exact mid_split (by omega)
theorem laidJ_mid (c : Bool) (u v : List Int) (n m la : Nat) (one two : Bool) : laidJ c (u ++ (n : Int) :: v) (u ++ (m : Int) :: v) u.length la one two =
    if vS (u ++ ((n + m : Nat) : Int) :: v) then (0, c, u ++ ((n + m : Nat) : Int) :: v, (List.range (pr (u ++ ((n + m : Nat) : Int) :: v))).map (atJ n m (pr v) la one two)) else (26, false, [], []) := by
  have e1 : (u ++ (n : Int) :: v).drop (u.length + 1) = v := by rw [List.drop_append, List.drop_of_length_le (by omega), Nat.add_sub_cancel_left]; rfl
  unfold laidJ
  rw [getD_mid, getD_mid, set_mid', e1, Int.toNat_natCast, Int.toNat_natCast, ← Int.natCast_add]
theorem kinds_text {s : List Int} {a b : Nat} (h : kinds s true a b) : b = 0 := h.2
theorem kinds_nums {s : List Int} {a b : Nat} (h : kinds s false a b) : a = 0 := h.2
section
variable (c : Bool) (sa sb ta tb : List Int) (x y : List Int) (k : Nat)
theorem laidP_ok (na nb : List (Option (Rat × Nat))) (one two : Bool) (hk : k < x.length) (hxy : y.length = x.length) (ht : y.take k = x.take k) (hd : y.drop (k + 1) = x.drop (k + 1)) (hx : vS x) (hy : vS y)
    (ka : kinds sa c ta.length na.length) (kb : kinds sb c tb.length nb.length) (h1 : ta.length ≤ 1000) (h2 : tb.length ≤ 1000) (h3 : na.length ≤ 1000) (h4 : nb.length ≤ 1000) :
    AC Try.prog 38 [AA sa c ta na true, AA sb c tb nb true, .sl 1 (irows .i64 x) false, .sl 1 (irows .i64 y) false, .val (.bool one), .val (.bool two), .val (.int .i64 (k : Int))] (.pure (resJ (laidJ c x y k (ta.length + na.length) one two) ta tb na nb)) := by
  obtain ⟨u, v, n, m, rfl, rfl, rfl⟩ := two_mid hk hxy ht hd hx hy
  rw [laidJ_mid]
  by_cases hs : vS (u ++ ((n + m : Nat) : Int) :: v)
  · rw [if_pos hs]
    have hc : ∀ l : List Int, l.length = pr (u ++ ((n + m : Nat) : Int) :: v) → cntI (u ++ ((n + m : Nat) : Int) :: v) = (l.length : Int) := fun l hl => by rw [hl]; exact (vS_pr hs).1
    unfold resJ
    rw [if_pos rfl]
    cases c
    · have e1 : ta = [] := List.length_eq_zero_iff.1 (kinds_nums ka)
      have e2 : tb = [] := List.length_eq_zero_iff.1 (kinds_nums kb)
      subst e1 e2
      exact laid_good false sa sb [] [] na nb u v n m one two _ _ _ [] _ hx hy hs (by show 0 + _ ≤ _; omega) (both_nums sa sb na nb (by omega)) (PickN_ok _ _ _ _ _ hs (hc _ (by rw [List.length_map, List.length_range])) (by rw [List.length_append]; omega))
    · have e1 : na = [] := List.length_eq_zero_iff.1 (kinds_text ka)
      have e2 : nb = [] := List.length_eq_zero_iff.1 (kinds_text kb)
      subst e1 e2
      exact laid_good true sa sb ta tb [] [] u v n m one two _ _ _ _ [] hx hy hs (by show _ + 0 ≤ _; omega) (both_text sa sb ta tb [] [] (by omega) (by omega)) (PickT_ok _ _ _ _ _ hs (hc _ (by rw [List.length_map, List.length_range])) (by rw [List.length_append]; omega))
  · rw [if_neg hs]
    exact laid_bad c sa sb ta tb na nb u v n m one two hx hy hs
end
end
section

theorem resJ_form (r : JR) (ta tb : List Int) (na nb : List (Option (Rat × Nat))) : ∃ s c t n z e, resJ r ta tb na nb = .tup [.agg [.sl 1 (irows .i64 s) false, .val (.bool c), .sl 1 (irows .i32 t) false, .sl 3 (List.map rowX n) false, .val (.bool z)], .val (.int .i64 e)] := by
  unfold resJ
  split
  · exact ⟨_, _, _, _, _, _, rfl⟩
  · exact ⟨_, _, _, _, _, _, rfl⟩
theorem resJ_err {r : JR} {e : Int} (he : e ≠ 0) (hr : r = (e, false, [], [])) (ta tb : List Int) (na nb : List (Option (Rat × Nat))) : AVle (.tup [AZ, .val (.int .i64 e)]) (resJ r ta tb na nb) := by
  subst hr
  unfold resJ
  rw [if_neg he]
  exact .tup2 AZ_le (.refl _)
theorem AZe_noid (e : Int) : NoId (.tup [AZ, .val (.int .i64 e)]) := .tup _ (noid2 AZ_noid (.val _))
theorem catS_cases (sa sb : List Int) : ∃ s1, (sa.length < sb.length → s1 = sb) ∧ (¬ sa.length < sb.length → s1 = sa) ∧ (s1 = [] → catS sa sb = [1]) ∧ (s1 ≠ [] → catS sa sb = s1) :=
  ⟨if sa.length < sb.length then sb else sa, fun h => if_pos h, fun h => if_neg h, fun h => if_pos h, fun h => if_neg h⟩
section
variable (ca cb : Bool) (sa sb ta tb : List Int) (axis : Int)
theorem Cat_ok (na nb : List (Option (Rat × Nat))) (va : vS sa) (vb : vS sb) (ka : kinds sa ca ta.length na.length) (kb : kinds sb cb tb.length nb.length) (h1 : ta.length ≤ 1000) (h2 : tb.length ≤ 1000) (h3 : na.length ≤ 1000) (h4 : nb.length ≤ 1000) :
    AC Try.prog 17 [AA sa ca ta na true, AA sb cb tb nb true, .val (.int .i64 axis)] (.pure (resJ (catJ ca cb (ta.length + na.length) (tb.length + nb.length) sa sb axis) ta tb na nb)) := by
  obtain ⟨q1, q2⟩ := alike_ok sa sb ta tb na nb ca cb va vb ka kb (by omega) (by omega) (by omega) (by omega)
  have nd := noid3 (AA_noid sa ca ta na true) (AA_noid sb cb tb nb true) (NoId.val (.int .i64 axis))
  cases hal : alikeC ca cb (ta.length + na.length) (tb.length + nb.length) with
  | none =>
    have q2 := q2 hal
    have e : catJ ca cb (ta.length + na.length) (tb.length + nb.length) sa sb axis = (22, false, [], []) := by unfold catJ; rw [hal]
    refine AC.le_res (?_ : AC Try.prog 17 _ (.pure (.tup [AZ, .val (.int .i64 22)]))) (resJ_err (by decide) e _ _ _ _) (resJ_noid _ _ _ _ _)
    refine AC.of_body TTok Try.func17 rfl (enter_of Try.func17 (by kernel_rfl) (by kernel_rfl)) nd (AZe_noid _) (Nat.le_of_ble_eq_true rfl) ?_
    unfold AA AZ at *
    repeat
      conv => whnf
      first
        | refine ⟨_, by assumption, ?_⟩
        | refine ⟨(Nat.le_of_ble_eq_true rfl), _, by assumption, ?_⟩
        | refine ⟨by kernel_rfl, ?_⟩
        | exact rfl
        | exact ⟨Nat.le_of_ble_eq_true rfl, rfl⟩
        | refine ⟨by decide, ?_⟩
  | some c =>
    have q1 := q1 c hal
    obtain ⟨kc, kd⟩ := alike_kinds hal ka kb
    obtain ⟨s1, y1, y2, y3, y4⟩ := catS_cases sa sb
    obtain ⟨vs, ls0⟩ := catS_ok va vb
    have ec : catJ ca cb (ta.length + na.length) (tb.length + nb.length) sa sb axis =
      if ((catS sa sb).length : Int) ≤ catK (catS sa sb) axis then (23, false, [], [])
      else if (fitJ sa (catS sa sb) (catK (catS sa sb) axis).toNat).2.2 ≠ 0 then ((fitJ sa (catS sa sb) (catK (catS sa sb) axis).toNat).2.2, false, [], [])
      else if (fitJ sb (catS sa sb) (catK (catS sa sb) axis).toNat).2.2 ≠ 0 then ((fitJ sb (catS sa sb) (catK (catS sa sb) axis).toNat).2.2, false, [], [])
      else laidJ c (fitJ sa (catS sa sb) (catK (catS sa sb) axis).toNat).1 (fitJ sb (catS sa sb) (catK (catS sa sb) axis).toNat).1 (catK (catS sa sb) axis).toNat (ta.length + na.length) (decide (sa = [])) (decide (sb = [])) := by unfold catJ; rw [hal]
    have hR := resJ_noid (catJ ca cb (ta.length + na.length) (tb.length + nb.length) sa sb axis) ta tb na nb
    generalize catJ ca cb (ta.length + na.length) (tb.length + nb.length) sa sb axis = R at *
    generalize catS sa sb = s at *
    have l8 := vs.1
    have ls := irows_len .i64 s
    obtain ⟨K, hK⟩ : ∃ K, K = catK s axis := ⟨_, rfl⟩
    have K0 : 0 ≤ K := by rw [hK]; unfold catK; split <;> omega
    obtain ⟨k, hk⟩ := Int.eq_ofNat_of_zero_le K0
    rw [← hK, hk, Int.toNat_natCast] at ec
    have hfa := fun h => fits_ok sa s k c ta na h vs va
    have hfb := fun h => fits_ok sb s k c tb nb h vs vb
    have gfa := fun h => fitJ_good (sh := sa) (s := s) (k := k) h vs va
    have gfb := fun h => fitJ_good (sh := sb) (s := s) (k := k) h vs vb
    generalize fitJ sa s k = fa at *
    generalize fitJ sb s k = fb at *
    obtain ⟨x, one, ex⟩ := fa
    obtain ⟨y, two, ey⟩ := fb
    have ec : R = if (s.length : Int) ≤ (k : Int) then (23, false, [], []) else if ex ≠ 0 then (ex, false, [], []) else if ey ≠ 0 then (ey, false, [], []) else laidJ c x y k (ta.length + na.length) (decide (sa = [])) (decide (sb = [])) := ec
    obtain ⟨r', hle, hno, r1, r2, r3, r4⟩ : ∃ r', AVle r' (resJ R ta tb na nb) ∧ NoId r' ∧ (s.length ≤ k → r' = .tup [AZ, .val (.int .i64 23)]) ∧ (k < s.length → ex ≠ 0 → r' = .tup [AZ, .val (.int .i64 ex)]) ∧ (k < s.length → ex = 0 → ey ≠ 0 → r' = .tup [AZ, .val (.int .i64 ey)]) ∧
        (k < s.length → ex = 0 → ey = 0 → r' = resJ (laidJ c x y k (ta.length + na.length) (decide (sa = [])) (decide (sb = []))) ta tb na nb) := by
      by_cases b1 : s.length ≤ k
      · rw [if_pos (by omega)] at ec
        exact ⟨_, resJ_err (by decide) ec _ _ _ _, AZe_noid _, fun _ => rfl, fun h => absurd h (by omega), fun h => absurd h (by omega), fun h => absurd h (by omega)⟩
      · rw [if_neg (by omega)] at ec
        by_cases b2 : ex ≠ 0
        · rw [if_pos b2] at ec
          exact ⟨_, resJ_err b2 ec _ _ _ _, AZe_noid _, fun h => absurd h b1, fun _ _ => rfl, fun _ h => absurd h b2, fun _ h => absurd h b2⟩
        · rw [if_neg b2] at ec
          by_cases b3 : ey ≠ 0
          · rw [if_pos b3] at ec
            exact ⟨_, resJ_err b3 ec _ _ _ _, AZe_noid _, fun h => absurd h b1, fun _ h => absurd h b2, fun _ _ _ => rfl, fun _ _ h => absurd h b3⟩
          · rw [if_neg b3] at ec
            subst ec
            exact ⟨_, .refl _, hR, fun h => absurd h b1, fun _ h => absurd h b2, fun _ _ h => absurd h b3, fun _ _ _ => rfl⟩
    refine AC.le_res (?_ : AC Try.prog 17 _ (.pure r')) hle hR
    have hS := Shape_ok sa c ta na (by have := va.1; omega)
    have hSb := Shape_ok sb c tb nb (by have := vb.1; omega)
    have hRb := Rank_ok sb c tb nb (by have := vb.1; omega)
    have lsa := irows_len .i64 sa
    have lsb := irows_len .i64 sb
    have ls1 := irows_len .i64 s1
    refine AC.of_sw TTok Try.func17 rfl (enter_of Try.func17 (by kernel_rfl) (by kernel_rfl)) nd hno (Nat.le_of_ble_eq_true rfl) ?_
    unfold AA AZ at *
    refine SW.seqA TTok ?_
    conv => whnf
    refine SW.seqA TTok ?_
    conv => whnf
    refine ⟨_, q1, ?_⟩
    conv => whnf
    refine SW.seqA TTok ?_
    conv => whnf
    refine SW.seqA TTok ?_
    conv => whnf
    refine ⟨_, hS, ?_⟩
    conv => whnf
    refine SW.cutM TTok (fun _ : Unit => [(2, .val (.int .i64 axis)), (3, .lp 0 0), (4, .lp 8 0), (6, .lp 16 0), (7, .val (.int .i64 0)), (9, .sl 1 (irows .i64 s1) false)]) (fun _ => [(0, .cells 5 [[.sl 1 (irows .i64 sa) false, .val (.bool c), .sl 1 (irows .i32 ta) false, .sl 3 (na.map rowX) false, .val (.bool true)]]), (8, .cells 5 [[.sl 1 (irows .i64 sb) false, .val (.bool c), .sl 1 (irows .i32 tb) false, .sl 3 (nb.map rowX) false, .val (.bool true)]]), (16, .cells 5 [[.sl 0 [] true, .val (.bool false), .sl 0 [] true, .sl 0 [] true, .val (.bool false)]])]) 24 82 rfl (fun _ => True) ?_ (fun _ _ => ?_)
    · by_cases h5 : sa.length < sb.length
      · rw [y1 h5]
        conv => whnf
        refine ⟨_, hRb, ?_⟩
        conv => whnf
        first
          | refine caseb (fun _ => ?_) (fun h => absurd (of_decide_eq_false h) (by omega))
          | refine caseb (fun h => absurd (of_decide_eq_true h) (by omega)) (fun _ => ?_)
          | refine caseb (fun _ => ?_) (fun h => absurd (beq_eq_false_iff_ne.1 h) (by omega))
          | refine caseb (fun h => absurd (eq_of_beq h) (by omega)) (fun _ => ?_)
        conv => whnf
        refine ⟨_, hSb, ?_⟩
        conv => whnf
        exact ⟨(), [], trivial, ⟨⟨rfl, rfl⟩, ⟨rfl, rfl⟩, ⟨rfl, rfl⟩, ⟨rfl, rfl⟩, ⟨rfl, rfl⟩, ⟨rfl, rfl⟩, trivial⟩, ⟨⟨rfl, .inr ⟨rfl, rfl⟩⟩, ⟨rfl, .inr ⟨rfl, rfl⟩⟩, ⟨rfl, .inr ⟨rfl, rfl⟩⟩, trivial⟩, rfl⟩
      · rw [y2 h5]
        conv => whnf
        refine ⟨_, hRb, ?_⟩
        conv => whnf
        first
          | refine caseb (fun _ => ?_) (fun h => absurd (of_decide_eq_false h) (by omega))
          | refine caseb (fun h => absurd (of_decide_eq_true h) (by omega)) (fun _ => ?_)
          | refine caseb (fun _ => ?_) (fun h => absurd (beq_eq_false_iff_ne.1 h) (by omega))
          | refine caseb (fun h => absurd (eq_of_beq h) (by omega)) (fun _ => ?_)
        conv => whnf
        exact ⟨(), [], trivial, ⟨⟨rfl, rfl⟩, ⟨rfl, rfl⟩, ⟨rfl, rfl⟩, ⟨rfl, rfl⟩, ⟨rfl, rfl⟩, ⟨rfl, rfl⟩, trivial⟩, ⟨⟨rfl, .inr ⟨rfl, rfl⟩⟩, ⟨rfl, .inr ⟨rfl, rfl⟩⟩, ⟨rfl, .inr ⟨rfl, rfl⟩⟩, trivial⟩, rfl⟩
    refine SW.cutW TTok (fun _ : Unit => [(2, .val (.int .i64 axis)), (3, .lp 0 0), (4, .lp 8 0), (6, .lp 16 0), (7, .val (.int .i64 0)), (9, .sl 1 (irows .i64 s) false)]) (fun _ => [(0, .cells 5 [[.sl 1 (irows .i64 sa) false, .val (.bool c), .sl 1 (irows .i32 ta) false, .sl 3 (na.map rowX) false, .val (.bool true)]]), (8, .cells 5 [[.sl 1 (irows .i64 sb) false, .val (.bool c), .sl 1 (irows .i32 tb) false, .sl 3 (nb.map rowX) false, .val (.bool true)]]), (16, .cells 5 [[.sl 0 [] true, .val (.bool false), .sl 0 [] true, .sl 0 [] true, .val (.bool false)]])]) 24 82 rfl (fun _ => True) ?_ (fun _ _ => ?_)
    · by_cases h5 : s1 = []
      · rw [y3 h5]
        have : s1.length = 0 := by rw [h5]; rfl
        conv => whnf
        first
          | refine caseb (fun _ => ?_) (fun h => absurd (of_decide_eq_false h) (by omega))
          | refine caseb (fun h => absurd (of_decide_eq_true h) (by omega)) (fun _ => ?_)
          | refine caseb (fun _ => ?_) (fun h => absurd (beq_eq_false_iff_ne.1 h) (by omega))
          | refine caseb (fun h => absurd (eq_of_beq h) (by omega)) (fun _ => ?_)
        conv => whnf
        exact ⟨_, (), [], Wk.frz 9 48 0 1 1 rfl rfl (by decide) (Nat.le_refl _) (noid_sl .i64 [1] false), rfl, trivial, ⟨⟨rfl, rfl⟩, ⟨rfl, rfl⟩, ⟨rfl, rfl⟩, ⟨rfl, rfl⟩, ⟨rfl, rfl⟩, ⟨rfl, rfl⟩, trivial⟩, ⟨⟨rfl, .inr ⟨rfl, rfl⟩⟩, ⟨rfl, .inr ⟨rfl, rfl⟩⟩, ⟨rfl, .inr ⟨rfl, rfl⟩⟩, trivial⟩, rfl⟩
      · rw [y4 h5]
        have : s1.length ≠ 0 := fun h => h5 (List.length_eq_zero_iff.1 h)
        conv => whnf
        first
          | refine caseb (fun _ => ?_) (fun h => absurd (of_decide_eq_false h) (by omega))
          | refine caseb (fun h => absurd (of_decide_eq_true h) (by omega)) (fun _ => ?_)
          | refine caseb (fun _ => ?_) (fun h => absurd (beq_eq_false_iff_ne.1 h) (by omega))
          | refine caseb (fun h => absurd (eq_of_beq h) (by omega)) (fun _ => ?_)
        conv => whnf
        exact ⟨_, (), [], Wk.refl _, rfl, trivial, ⟨⟨rfl, rfl⟩, ⟨rfl, rfl⟩, ⟨rfl, rfl⟩, ⟨rfl, rfl⟩, ⟨rfl, rfl⟩, ⟨rfl, rfl⟩, trivial⟩, ⟨⟨rfl, .inr ⟨rfl, rfl⟩⟩, ⟨rfl, .inr ⟨rfl, rfl⟩⟩, ⟨rfl, .inr ⟨rfl, rfl⟩⟩, trivial⟩, rfl⟩
    refine SW.cutM TTok (fun _ : Unit => [(2, .val (.int .i64 (k : Int))), (3, .lp 0 0), (4, .lp 8 0), (6, .lp 16 0), (7, .val (.int .i64 0)), (9, .sl 1 (irows .i64 s) false)]) (fun _ => [(0, .cells 5 [[.sl 1 (irows .i64 sa) false, .val (.bool c), .sl 1 (irows .i32 ta) false, .sl 3 (na.map rowX) false, .val (.bool true)]]), (8, .cells 5 [[.sl 1 (irows .i64 sb) false, .val (.bool c), .sl 1 (irows .i32 tb) false, .sl 3 (nb.map rowX) false, .val (.bool true)]]), (16, .cells 5 [[.sl 0 [] true, .val (.bool false), .sl 0 [] true, .sl 0 [] true, .val (.bool false)]])]) 24 82 rfl (fun _ => True) ?_ (fun _ _ => ?_)
    · unfold catK at hK
      by_cases h5 : axis < 0
      · rw [if_pos h5] at hK
        have eK : IntKind.i64.wrap (((irows .i64 s).length : Int) - 1) = (k : Int) := by rw [IntWalk.i64_in _ (by omega)]; omega
        conv => whnf
        first
          | refine caseb (fun _ => ?_) (fun h => absurd (of_decide_eq_false h) (by omega))
          | refine caseb (fun h => absurd (of_decide_eq_true h) (by omega)) (fun _ => ?_)
          | refine caseb (fun _ => ?_) (fun h => absurd (beq_eq_false_iff_ne.1 h) (by omega))
          | refine caseb (fun h => absurd (eq_of_beq h) (by omega)) (fun _ => ?_)
        conv => whnf
        exact ⟨(), [], trivial, ⟨⟨valI eK, rfl⟩, ⟨rfl, rfl⟩, ⟨rfl, rfl⟩, ⟨rfl, rfl⟩, ⟨rfl, rfl⟩, ⟨rfl, rfl⟩, trivial⟩, ⟨⟨rfl, .inr ⟨rfl, rfl⟩⟩, ⟨rfl, .inr ⟨rfl, rfl⟩⟩, ⟨rfl, .inr ⟨rfl, rfl⟩⟩, trivial⟩, rfl⟩
      · rw [if_neg h5] at hK
        conv => whnf
        first
          | refine caseb (fun _ => ?_) (fun h => absurd (of_decide_eq_false h) (by omega))
          | refine caseb (fun h => absurd (of_decide_eq_true h) (by omega)) (fun _ => ?_)
          | refine caseb (fun _ => ?_) (fun h => absurd (beq_eq_false_iff_ne.1 h) (by omega))
          | refine caseb (fun h => absurd (eq_of_beq h) (by omega)) (fun _ => ?_)
        conv => whnf
        exact ⟨(), [], trivial, ⟨⟨valI (by omega), rfl⟩, ⟨rfl, rfl⟩, ⟨rfl, rfl⟩, ⟨rfl, rfl⟩, ⟨rfl, rfl⟩, ⟨rfl, rfl⟩, trivial⟩, ⟨⟨rfl, .inr ⟨rfl, rfl⟩⟩, ⟨rfl, .inr ⟨rfl, rfl⟩⟩, ⟨rfl, .inr ⟨rfl, rfl⟩⟩, trivial⟩, rfl⟩
    refine axp_sound TTok _ _ _ ?_
    by_cases b1 : s.length ≤ k
    · rw [r1 b1]
      conv => whnf
      first
        | refine caseb (fun _ => ?_) (fun h => absurd (of_decide_eq_false h) (by omega))
        | refine caseb (fun h => absurd (of_decide_eq_true h) (by omega)) (fun _ => ?_)
        | refine caseb (fun _ => ?_) (fun h => absurd (beq_eq_false_iff_ne.1 h) (by omega))
        | refine caseb (fun h => absurd (eq_of_beq h) (by omega)) (fun _ => ?_)
      repeat
        conv => whnf
        first
          | refine ⟨_, by assumption, ?_⟩
          | refine ⟨(Nat.le_of_ble_eq_true rfl), _, by assumption, ?_⟩
          | refine ⟨by kernel_rfl, ?_⟩
          | exact rfl
          | exact ⟨Nat.le_of_ble_eq_true rfl, rfl⟩
          | refine ⟨by decide, ?_⟩
    · have b1' : k < s.length := by omega
      have hfa := hfa b1'
      have hfb := hfb b1'
      by_cases b2 : ex = 0
      · by_cases b3 : ey = 0
        · have gfa := gfa b1' b2
          have gfb := gfb b1' b3
          subst b2 b3
          rw [r4 b1' rfl rfl]
          obtain ⟨g1, g2, g3, g4, g5⟩ := gfa
          obtain ⟨g6, g7, g8, g9, g10⟩ := gfb
          have g1 : x.length = s.length := g1
          have g2 : x.take k = s.take k := g2
          have g3 : x.drop (k + 1) = s.drop (k + 1) := g3
          have g4 : vS x := g4
          have g5 : one = decide (sa = []) := g5
          have g6 : y.length = s.length := g6
          have g7 : y.take k = s.take k := g7
          have g8 : y.drop (k + 1) = s.drop (k + 1) := g8
          have g9 : vS y := g9
          have g10 : two = decide (sb = []) := g10
          have hl := laidP_ok c sa sb ta tb x y k na nb one two (by omega) (by omega) (by rw [g2, g7]) (by rw [g3, g8]) g4 g9 kc kd h1 h2 h3 h4
          rw [g5, g10] at hl
          rw [g5] at hfa
          rw [g10] at hfb
          obtain ⟨fs, fc, ft, fn, fz, fe, hF⟩ := resJ_form (laidJ c x y k (ta.length + na.length) (decide (sa = [])) (decide (sb = []))) ta tb na nb
          rw [hF] at hl ⊢
          unfold AA at hl
          conv => whnf
          first
            | refine caseb (fun _ => ?_) (fun h => absurd (of_decide_eq_false h) (by omega))
            | refine caseb (fun h => absurd (of_decide_eq_true h) (by omega)) (fun _ => ?_)
            | refine caseb (fun _ => ?_) (fun h => absurd (beq_eq_false_iff_ne.1 h) (by omega))
            | refine caseb (fun h => absurd (eq_of_beq h) (by omega)) (fun _ => ?_)
          conv => whnf
          refine ⟨_, hfa, ?_⟩
          conv => whnf
          refine ⟨_, hfb, ?_⟩
          conv => whnf
          refine ⟨_, hl, ?_⟩
          repeat
            conv => whnf
            first
              | refine ⟨_, by assumption, ?_⟩
              | refine ⟨(Nat.le_of_ble_eq_true rfl), _, by assumption, ?_⟩
              | refine ⟨by kernel_rfl, ?_⟩
              | exact rfl
              | exact ⟨Nat.le_of_ble_eq_true rfl, rfl⟩
              | refine ⟨by decide, ?_⟩
        · rw [r3 b1' b2 b3]
          subst b2
          conv => whnf
          first
            | refine caseb (fun _ => ?_) (fun h => absurd (of_decide_eq_false h) (by omega))
            | refine caseb (fun h => absurd (of_decide_eq_true h) (by omega)) (fun _ => ?_)
            | refine caseb (fun _ => ?_) (fun h => absurd (beq_eq_false_iff_ne.1 h) (by omega))
            | refine caseb (fun h => absurd (eq_of_beq h) (by omega)) (fun _ => ?_)
          conv => whnf
          refine ⟨_, hfa, ?_⟩
          conv => whnf
          refine ⟨_, hfb, ?_⟩
          conv => whnf
          first
            | refine caseb (fun h => absurd (bne_iff_ne.1 h) (by omega)) (fun _ => ?_)
            | refine caseb (fun _ => ?_) (fun h => absurd (bne_eq_false_iff_eq.1 h) (by omega))
          repeat
            conv => whnf
            first
              | refine ⟨_, by assumption, ?_⟩
              | refine ⟨(Nat.le_of_ble_eq_true rfl), _, by assumption, ?_⟩
              | refine ⟨by kernel_rfl, ?_⟩
              | exact rfl
              | exact ⟨Nat.le_of_ble_eq_true rfl, rfl⟩
              | refine ⟨by decide, ?_⟩
      · rw [r2 b1' b2]
        conv => whnf
        first
          | refine caseb (fun _ => ?_) (fun h => absurd (of_decide_eq_false h) (by omega))
          | refine caseb (fun h => absurd (of_decide_eq_true h) (by omega)) (fun _ => ?_)
          | refine caseb (fun _ => ?_) (fun h => absurd (beq_eq_false_iff_ne.1 h) (by omega))
          | refine caseb (fun h => absurd (eq_of_beq h) (by omega)) (fun _ => ?_)
        conv => whnf
        refine ⟨_, hfa, ?_⟩
        conv => whnf
        first
          | refine caseb (fun h => absurd (bne_iff_ne.1 h) (by omega)) (fun _ => ?_)
          | refine caseb (fun _ => ?_) (fun h => absurd (bne_eq_false_iff_eq.1 h) (by omega))
        repeat
          conv => whnf
          first
            | refine ⟨_, by assumption, ?_⟩
            | refine ⟨(Nat.le_of_ble_eq_true rfl), _, by assumption, ?_⟩
            | refine ⟨by kernel_rfl, ?_⟩
            | exact rfl
            | exact ⟨Nat.le_of_ble_eq_true rfl, rfl⟩
            | refine ⟨by decide, ?_⟩
end
end
section

section
variable (ca cb : Bool) (sa sb ta tb : List Int) (axis : Int)
end
end
section

theorem lamS_ok {sa sb : List Int} (va : vS sa) (vb : vS sb) : vS (lamS sa sb) := by unfold lamS; split <;> assumption
/-- The error of a lamination, ahead of the limit. -/
def lamE (s sb : List Int) (axis : Int) : Int :=
  if axis < 0 ∨ (s.length : Int) < axis ∨ s.length = 8 then 23 else if sb ≠ [] ∧ sb.length ≠ s.length then 23 else if sb ≠ [] ∧ sb ≠ s then 24 else 0
theorem lamJ_eq (ca cb c : Bool) (la lb : Nat) (sa sb : List Int) (axis : Int) (h : alikeC ca cb la lb = some c) : (lamE (lamS sa sb) sb axis ≠ 0 → lamJ ca cb la lb sa sb axis = (lamE (lamS sa sb) sb axis, false, [], [])) ∧
    (lamE (lamS sa sb) sb axis = 0 → lamJ ca cb la lb sa sb axis = laidJ c ((lamS sa sb).take axis.toNat ++ 1 :: (lamS sa sb).drop axis.toNat) ((lamS sa sb).take axis.toNat ++ 1 :: (lamS sa sb).drop axis.toNat) axis.toNat la (decide (sa = [])) (decide (sb = []))) := by
  unfold lamJ lamE
  rw [h]
  dsimp only
  generalize lamS sa sb = s
  by_cases a1 : axis < 0 ∨ (s.length : Int) < axis ∨ s.length = 8
  · rw [if_pos a1, if_pos a1]
    exact ⟨fun _ => rfl, fun h => absurd h (by decide)⟩
  · rw [if_neg a1, if_neg a1]
    by_cases a2 : sb ≠ [] ∧ sb.length ≠ s.length
    · rw [if_pos a2, if_pos a2]
      exact ⟨fun _ => rfl, fun h => absurd h (by decide)⟩
    · rw [if_neg a2, if_neg a2]
      by_cases a3 : sb ≠ [] ∧ sb ≠ s
      · rw [if_pos a3, if_pos a3]
        exact ⟨fun _ => rfl, fun h => absurd h (by decide)⟩
      · rw [if_neg a3, if_neg a3]
        exact ⟨fun h => absurd rfl h, fun _ => rfl⟩
theorem len_nil (s : List Int) : (((s.length : Nat) : Int) == 0) = decide (s = []) := by
  cases s with
  | nil => rfl
  | cons d s => rw [decide_eq_false (fun h => nomatch h)]; exact beq_eq_false_iff_ne.2 (by rw [List.length_cons]; omega)
section
variable (ca cb : Bool) (sa sb ta tb : List Int) (axis : Int)
theorem Lam_ok (na nb : List (Option (Rat × Nat))) (va : vS sa) (vb : vS sb) (ka : kinds sa ca ta.length na.length) (kb : kinds sb cb tb.length nb.length) (h1 : ta.length ≤ 1000) (h2 : tb.length ≤ 1000) (h3 : na.length ≤ 1000) (h4 : nb.length ≤ 1000) :
    AC Try.prog 34 [AA sa ca ta na true, AA sb cb tb nb true, .val (.int .i64 axis)] (.pure (resJ (lamJ ca cb (ta.length + na.length) (tb.length + nb.length) sa sb axis) ta tb na nb)) := by
  obtain ⟨q1, q2⟩ := alike_ok sa sb ta tb na nb ca cb va vb ka kb (by omega) (by omega) (by omega) (by omega)
  have nd := noid3 (AA_noid sa ca ta na true) (AA_noid sb cb tb nb true) (NoId.val (.int .i64 axis))
  cases hal : alikeC ca cb (ta.length + na.length) (tb.length + nb.length) with
  | none =>
    have q2 := q2 hal
    have e : lamJ ca cb (ta.length + na.length) (tb.length + nb.length) sa sb axis = (22, false, [], []) := by unfold lamJ; rw [hal]
    refine AC.le_res (?_ : AC Try.prog 34 _ (.pure (.tup [AZ, .val (.int .i64 22)]))) (resJ_err (by decide) e _ _ _ _) (resJ_noid _ _ _ _ _)
    refine AC.of_body TTok Try.func34 rfl (enter_of Try.func34 (by kernel_rfl) (by kernel_rfl)) nd (AZe_noid _) (Nat.le_of_ble_eq_true rfl) ?_
    unfold AA AZ at *
    repeat
      conv => whnf
      first
        | refine ⟨_, by assumption, ?_⟩
        | refine ⟨(Nat.le_of_ble_eq_true rfl), _, by assumption, ?_⟩
        | refine ⟨by kernel_rfl, ?_⟩
        | exact rfl
        | exact ⟨Nat.le_of_ble_eq_true rfl, rfl⟩
        | refine ⟨by decide, ?_⟩
  | some c =>
    have q1 := q1 c hal
    obtain ⟨kc, kd⟩ := alike_kinds hal ka kb
    obtain ⟨ec1, ec2⟩ := lamJ_eq ca cb c (ta.length + na.length) (tb.length + nb.length) sa sb axis hal
    have vs := lamS_ok va vb
    have hR := resJ_noid (lamJ ca cb (ta.length + na.length) (tb.length + nb.length) sa sb axis) ta tb na nb
    generalize lamJ ca cb (ta.length + na.length) (tb.length + nb.length) sa sb axis = R at *
    obtain ⟨s, hs⟩ : ∃ s, s = lamS sa sb := ⟨_, rfl⟩
    rw [← hs] at vs ec1 ec2
    have l8 := vs.1
    have ls := irows_len .i64 s
    have lsa := irows_len .i64 sa
    have lsb := irows_len .i64 sb
    obtain ⟨r', hle, hno, r1, r2⟩ : ∃ r', AVle r' (resJ R ta tb na nb) ∧ NoId r' ∧ (lamE s sb axis ≠ 0 → r' = .tup [AZ, .val (.int .i64 (lamE s sb axis))]) ∧
        (lamE s sb axis = 0 → r' = resJ (laidJ c (s.take axis.toNat ++ 1 :: s.drop axis.toNat) (s.take axis.toNat ++ 1 :: s.drop axis.toNat) axis.toNat (ta.length + na.length) (decide (sa = [])) (decide (sb = []))) ta tb na nb) := by
      by_cases b1 : lamE s sb axis = 0
      · have ec := ec2 b1
        subst ec
        exact ⟨_, .refl _, hR, fun h => absurd b1 h, fun _ => rfl⟩
      · exact ⟨_, resJ_err b1 (ec1 b1) _ _ _ _, AZe_noid _, fun _ => rfl, fun h => absurd h b1⟩
    refine AC.le_res (?_ : AC Try.prog 34 _ (.pure r')) hle hR
    have hS := Shape_ok sa c ta na (by have := va.1; omega)
    have hSb := Shape_ok sb c tb nb (by have := vb.1; omega)
    have hRa := Rank_ok sa c ta na (by have := va.1; omega)
    have hRb := Rank_ok sb c tb nb (by have := vb.1; omega)
    have hE := ShSame_ok sb s (by have := vb.1; omega) (by omega)
    refine AC.of_sw TTok Try.func34 rfl (enter_of Try.func34 (by kernel_rfl) (by kernel_rfl)) nd hno (Nat.le_of_ble_eq_true rfl) ?_
    unfold AA AZ at *
    refine SW.seqA TTok ?_
    conv => whnf
    refine SW.seqA TTok ?_
    conv => whnf
    refine ⟨_, q1, ?_⟩
    conv => whnf
    refine SW.seqA TTok ?_
    conv => whnf
    refine SW.seqA TTok ?_
    conv => whnf
    refine ⟨_, hS, ?_⟩
    conv => whnf
    refine SW.cutM TTok (fun _ : Unit => [(2, .val (.int .i64 axis)), (3, .lp 0 0), (4, .lp 8 0), (6, .lp 16 0), (7, .val (.int .i64 0)), (9, .sl 1 (irows .i64 s) false)]) (fun _ => [(0, .cells 5 [[.sl 1 (irows .i64 sa) false, .val (.bool c), .sl 1 (irows .i32 ta) false, .sl 3 (na.map rowX) false, .val (.bool true)]]), (8, .cells 5 [[.sl 1 (irows .i64 sb) false, .val (.bool c), .sl 1 (irows .i32 tb) false, .sl 3 (nb.map rowX) false, .val (.bool true)]]), (16, .cells 5 [[.sl 0 [] true, .val (.bool false), .sl 0 [] true, .sl 0 [] true, .val (.bool false)]])]) 24 90 rfl (fun _ => True) ?_ (fun _ _ => ?_)
    · by_cases h5 : sa = []
      · rw [hs, show lamS sa sb = sb from if_pos h5]
        have : sa.length = 0 := by rw [h5]; rfl
        conv => whnf
        first
          | refine caseb (fun _ => ?_) (fun h => absurd (of_decide_eq_false h) (by omega))
          | refine caseb (fun h => absurd (of_decide_eq_true h) (by omega)) (fun _ => ?_)
          | refine caseb (fun _ => ?_) (fun h => absurd (beq_eq_false_iff_ne.1 h) (by omega))
          | refine caseb (fun h => absurd (eq_of_beq h) (by omega)) (fun _ => ?_)
        conv => whnf
        refine ⟨_, hSb, ?_⟩
        conv => whnf
        exact ⟨(), [], trivial, ⟨⟨rfl, rfl⟩, ⟨rfl, rfl⟩, ⟨rfl, rfl⟩, ⟨rfl, rfl⟩, ⟨rfl, rfl⟩, ⟨rfl, rfl⟩, trivial⟩, ⟨⟨rfl, .inr ⟨rfl, rfl⟩⟩, ⟨rfl, .inr ⟨rfl, rfl⟩⟩, ⟨rfl, .inr ⟨rfl, rfl⟩⟩, trivial⟩, rfl⟩
      · rw [hs, show lamS sa sb = sa from if_neg h5]
        have : sa.length ≠ 0 := fun h => h5 (List.length_eq_zero_iff.1 h)
        conv => whnf
        first
          | refine caseb (fun _ => ?_) (fun h => absurd (of_decide_eq_false h) (by omega))
          | refine caseb (fun h => absurd (of_decide_eq_true h) (by omega)) (fun _ => ?_)
          | refine caseb (fun _ => ?_) (fun h => absurd (beq_eq_false_iff_ne.1 h) (by omega))
          | refine caseb (fun h => absurd (eq_of_beq h) (by omega)) (fun _ => ?_)
        conv => whnf
        exact ⟨(), [], trivial, ⟨⟨rfl, rfl⟩, ⟨rfl, rfl⟩, ⟨rfl, rfl⟩, ⟨rfl, rfl⟩, ⟨rfl, rfl⟩, ⟨rfl, rfl⟩, trivial⟩, ⟨⟨rfl, .inr ⟨rfl, rfl⟩⟩, ⟨rfl, .inr ⟨rfl, rfl⟩⟩, ⟨rfl, .inr ⟨rfl, rfl⟩⟩, trivial⟩, rfl⟩
    refine axp_sound TTok _ _ _ ?_
    by_cases a1 : axis < 0
    · have eE : lamE s sb axis = 23 := if_pos (.inl a1)
      rw [eE] at r1
      rw [r1 (by decide)]
      conv => whnf
      first
        | refine caseb (fun _ => ?_) (fun h => absurd (of_decide_eq_false h) (by omega))
        | refine caseb (fun h => absurd (of_decide_eq_true h) (by omega)) (fun _ => ?_)
        | refine caseb (fun _ => ?_) (fun h => absurd (beq_eq_false_iff_ne.1 h) (by omega))
        | refine caseb (fun h => absurd (eq_of_beq h) (by omega)) (fun _ => ?_)
      repeat
        conv => whnf
        first
          | refine ⟨_, by assumption, ?_⟩
          | refine ⟨(Nat.le_of_ble_eq_true rfl), _, by assumption, ?_⟩
          | refine ⟨by kernel_rfl, ?_⟩
          | exact rfl
          | exact ⟨Nat.le_of_ble_eq_true rfl, rfl⟩
          | refine ⟨by decide, ?_⟩
    · by_cases a2 : (s.length : Int) < axis
      · have eE : lamE s sb axis = 23 := if_pos (.inr (.inl a2))
        rw [eE] at r1
        rw [r1 (by decide)]
        conv => whnf
        first
          | refine caseb (fun _ => ?_) (fun h => absurd (of_decide_eq_false h) (by omega))
          | refine caseb (fun h => absurd (of_decide_eq_true h) (by omega)) (fun _ => ?_)
          | refine caseb (fun _ => ?_) (fun h => absurd (beq_eq_false_iff_ne.1 h) (by omega))
          | refine caseb (fun h => absurd (eq_of_beq h) (by omega)) (fun _ => ?_)
        conv => whnf
        first
          | refine caseb (fun _ => ?_) (fun h => absurd (of_decide_eq_false h) (by omega))
          | refine caseb (fun h => absurd (of_decide_eq_true h) (by omega)) (fun _ => ?_)
          | refine caseb (fun _ => ?_) (fun h => absurd (beq_eq_false_iff_ne.1 h) (by omega))
          | refine caseb (fun h => absurd (eq_of_beq h) (by omega)) (fun _ => ?_)
        repeat
          conv => whnf
          first
            | refine ⟨_, by assumption, ?_⟩
            | refine ⟨(Nat.le_of_ble_eq_true rfl), _, by assumption, ?_⟩
            | refine ⟨by kernel_rfl, ?_⟩
            | exact rfl
            | exact ⟨Nat.le_of_ble_eq_true rfl, rfl⟩
            | refine ⟨by decide, ?_⟩
      · by_cases a3 : s.length = 8
        · have eE : lamE s sb axis = 23 := if_pos (.inr (.inr a3))
          rw [eE] at r1
          rw [r1 (by decide)]
          conv => whnf
          first
            | refine caseb (fun _ => ?_) (fun h => absurd (of_decide_eq_false h) (by omega))
            | refine caseb (fun h => absurd (of_decide_eq_true h) (by omega)) (fun _ => ?_)
            | refine caseb (fun _ => ?_) (fun h => absurd (beq_eq_false_iff_ne.1 h) (by omega))
            | refine caseb (fun h => absurd (eq_of_beq h) (by omega)) (fun _ => ?_)
          conv => whnf
          first
            | refine caseb (fun _ => ?_) (fun h => absurd (of_decide_eq_false h) (by omega))
            | refine caseb (fun h => absurd (of_decide_eq_true h) (by omega)) (fun _ => ?_)
            | refine caseb (fun _ => ?_) (fun h => absurd (beq_eq_false_iff_ne.1 h) (by omega))
            | refine caseb (fun h => absurd (eq_of_beq h) (by omega)) (fun _ => ?_)
          conv => whnf
          first
            | refine caseb (fun _ => ?_) (fun h => absurd (of_decide_eq_false h) (by omega))
            | refine caseb (fun h => absurd (of_decide_eq_true h) (by omega)) (fun _ => ?_)
            | refine caseb (fun _ => ?_) (fun h => absurd (beq_eq_false_iff_ne.1 h) (by omega))
            | refine caseb (fun h => absurd (eq_of_beq h) (by omega)) (fun _ => ?_)
          repeat
            conv => whnf
            first
              | refine ⟨_, by assumption, ?_⟩
              | refine ⟨(Nat.le_of_ble_eq_true rfl), _, by assumption, ?_⟩
              | refine ⟨by kernel_rfl, ?_⟩
              | exact rfl
              | exact ⟨Nat.le_of_ble_eq_true rfl, rfl⟩
              | refine ⟨by decide, ?_⟩
        · have eE : lamE s sb axis = if sb ≠ [] ∧ sb.length ≠ s.length then 23 else if sb ≠ [] ∧ sb ≠ s then 24 else 0 := if_neg (by omega)
          obtain ⟨k, rfl⟩ := Int.eq_ofNat_of_zero_le (show 0 ≤ axis by omega)
          have e1 : List.drop 0 (List.take (k : Int).toNat (irows .i64 s)) = irows .i64 (s.take k) := by rw [Int.toNat_natCast, List.drop_zero, irows_take]
          have e2 : List.drop (k : Int).toNat (List.take (irows .i64 s).length (irows .i64 s)) = irows .i64 (s.drop k) := by rw [Int.toNat_natCast, List.take_length, irows_drop]
          have hJ := ShJoin_ok [s.take k, [1], s.drop k] (by show 3 ≤ 1000; omega) (by simp; omega)
          rw [show [s.take k, [1], s.drop k].flatten = s.take k ++ 1 :: s.drop k by simp, show lrows [s.take k, [1], s.drop k] = [[.sl 1 (irows .i64 (s.take k)) false], [.sl 1 [[.val (.int .i64 1)]] false], [.sl 1 (irows .i64 (s.drop k)) false]] from rfl, ← e1, ← e2] at hJ
          have n1 : NoId (.sl 1 (List.drop 0 (List.take (k : Int).toNat (irows .i64 s))) false) := by rw [e1]; exact noid_sl _ _ _
          have n3 : NoId (.sl 1 (List.drop (k : Int).toNat (List.take (irows .i64 s).length (irows .i64 s))) false) := by rw [e2]; exact noid_sl _ _ _
          have vx : vS (s.take k ++ 1 :: s.drop k) := vS_ins (by rw [List.take_append_drop]; exact vs) (by rw [List.length_take, List.length_drop]; omega)
          have hl := laidP_ok c sa sb ta tb (s.take k ++ 1 :: s.drop k) (s.take k ++ 1 :: s.drop k) k na nb (decide (sa = [])) (decide (sb = [])) (by rw [ins_len (by omega)]; omega) rfl rfl rfl vx vx kc kd h1 h2 h3 h4
          have eT : ((k : Nat) : Int).toNat = k := Int.toNat_natCast k
          by_cases b0 : sb = []
          · have eE0 : lamE s sb (k : Int) = 0 := by rw [eE, if_neg (fun h => h.1 b0), if_neg (fun h => h.1 b0)]
            rw [r2 eE0, eT]
            have : sb.length = 0 := by rw [b0]; rfl
            obtain ⟨fs, fc, ft, fn, fz, fe, hF⟩ := resJ_form (laidJ c (s.take k ++ 1 :: s.drop k) (s.take k ++ 1 :: s.drop k) k (ta.length + na.length) (decide (sa = [])) (decide (sb = []))) ta tb na nb
            rw [hF] at hl ⊢
            rw [← len_nil, ← len_nil] at hl
            unfold AA at hl
            conv => whnf
            first
              | refine caseb (fun _ => ?_) (fun h => absurd (of_decide_eq_false h) (by omega))
              | refine caseb (fun h => absurd (of_decide_eq_true h) (by omega)) (fun _ => ?_)
              | refine caseb (fun _ => ?_) (fun h => absurd (beq_eq_false_iff_ne.1 h) (by omega))
              | refine caseb (fun h => absurd (eq_of_beq h) (by omega)) (fun _ => ?_)
            conv => whnf
            first
              | refine caseb (fun _ => ?_) (fun h => absurd (of_decide_eq_false h) (by omega))
              | refine caseb (fun h => absurd (of_decide_eq_true h) (by omega)) (fun _ => ?_)
              | refine caseb (fun _ => ?_) (fun h => absurd (beq_eq_false_iff_ne.1 h) (by omega))
              | refine caseb (fun h => absurd (eq_of_beq h) (by omega)) (fun _ => ?_)
            conv => whnf
            refine ⟨_, hRb, ?_⟩
            conv => whnf
            first
              | refine caseb (fun h => absurd (bne_iff_ne.1 h) (by omega)) (fun _ => ?_)
              | refine caseb (fun _ => ?_) (fun h => absurd (bne_eq_false_iff_eq.1 h) (by omega))
            conv => whnf
            refine ⟨_, hRb, ?_⟩
            conv => whnf
            first
              | refine caseb (fun h => absurd (bne_iff_ne.1 h) (by omega)) (fun _ => ?_)
              | refine caseb (fun _ => ?_) (fun h => absurd (bne_eq_false_iff_eq.1 h) (by omega))
            conv => whnf
            refine ⟨by omega, ?_⟩
            conv => whnf
            refine ⟨by omega, ?_⟩
            conv => whnf
            refine ⟨⟨Nat.le_refl _, noid3 n1 (noid_sl .i64 [1] false) n3⟩, ?_⟩
            conv => whnf
            refine ⟨(Nat.le_of_ble_eq_true rfl), _, hJ, ?_⟩
            conv => whnf
            refine ⟨by kernel_rfl, ?_⟩
            conv => whnf
            refine ⟨_, hRa, ?_⟩
            conv => whnf
            refine ⟨_, hRb, ?_⟩
            conv => whnf
            refine ⟨_, hl, ?_⟩
            conv => whnf
            refine ⟨by kernel_rfl, ?_⟩
            repeat
              conv => whnf
              first
                | refine ⟨_, by assumption, ?_⟩
                | refine ⟨(Nat.le_of_ble_eq_true rfl), _, by assumption, ?_⟩
                | refine ⟨by kernel_rfl, ?_⟩
                | exact rfl
                | exact ⟨Nat.le_of_ble_eq_true rfl, rfl⟩
                | refine ⟨by decide, ?_⟩
          · have b0' : sb.length ≠ 0 := fun h => b0 (List.length_eq_zero_iff.1 h)
            by_cases b1 : sb.length ≠ s.length
            · have eE1 : lamE s sb (k : Int) = 23 := by rw [eE, if_pos ⟨b0, b1⟩]
              rw [eE1] at r1
              rw [r1 (by decide)]
              conv => whnf
              first
                | refine caseb (fun _ => ?_) (fun h => absurd (of_decide_eq_false h) (by omega))
                | refine caseb (fun h => absurd (of_decide_eq_true h) (by omega)) (fun _ => ?_)
                | refine caseb (fun _ => ?_) (fun h => absurd (beq_eq_false_iff_ne.1 h) (by omega))
                | refine caseb (fun h => absurd (eq_of_beq h) (by omega)) (fun _ => ?_)
              conv => whnf
              first
                | refine caseb (fun _ => ?_) (fun h => absurd (of_decide_eq_false h) (by omega))
                | refine caseb (fun h => absurd (of_decide_eq_true h) (by omega)) (fun _ => ?_)
                | refine caseb (fun _ => ?_) (fun h => absurd (beq_eq_false_iff_ne.1 h) (by omega))
                | refine caseb (fun h => absurd (eq_of_beq h) (by omega)) (fun _ => ?_)
              conv => whnf
              refine ⟨_, hRb, ?_⟩
              conv => whnf
              first
                | refine caseb (fun h => absurd (bne_iff_ne.1 h) (by omega)) (fun _ => ?_)
                | refine caseb (fun _ => ?_) (fun h => absurd (bne_eq_false_iff_eq.1 h) (by omega))
              conv => whnf
              refine ⟨_, hRb, ?_⟩
              conv => whnf
              first
                | refine caseb (fun h => absurd (bne_iff_ne.1 h) (by omega)) (fun _ => ?_)
                | refine caseb (fun _ => ?_) (fun h => absurd (bne_eq_false_iff_eq.1 h) (by omega))
              repeat
                conv => whnf
                first
                  | refine ⟨_, by assumption, ?_⟩
                  | refine ⟨(Nat.le_of_ble_eq_true rfl), _, by assumption, ?_⟩
                  | refine ⟨by kernel_rfl, ?_⟩
                  | exact rfl
                  | exact ⟨Nat.le_of_ble_eq_true rfl, rfl⟩
                  | refine ⟨by decide, ?_⟩
            · have b1' : sb.length = s.length := Decidable.byContradiction b1
              by_cases b2 : sb = s
              · have eE0 : lamE s sb (k : Int) = 0 := by rw [eE, if_neg (fun h => b1 h.2), if_neg (fun h => h.2 b2)]
                rw [r2 eE0, eT]
                rw [decide_eq_true b2] at hE
                obtain ⟨fs, fc, ft, fn, fz, fe, hF⟩ := resJ_form (laidJ c (s.take k ++ 1 :: s.drop k) (s.take k ++ 1 :: s.drop k) k (ta.length + na.length) (decide (sa = [])) (decide (sb = []))) ta tb na nb
                rw [hF] at hl ⊢
                rw [← len_nil, ← len_nil] at hl
                unfold AA at hl
                conv => whnf
                first
                  | refine caseb (fun _ => ?_) (fun h => absurd (of_decide_eq_false h) (by omega))
                  | refine caseb (fun h => absurd (of_decide_eq_true h) (by omega)) (fun _ => ?_)
                  | refine caseb (fun _ => ?_) (fun h => absurd (beq_eq_false_iff_ne.1 h) (by omega))
                  | refine caseb (fun h => absurd (eq_of_beq h) (by omega)) (fun _ => ?_)
                conv => whnf
                first
                  | refine caseb (fun _ => ?_) (fun h => absurd (of_decide_eq_false h) (by omega))
                  | refine caseb (fun h => absurd (of_decide_eq_true h) (by omega)) (fun _ => ?_)
                  | refine caseb (fun _ => ?_) (fun h => absurd (beq_eq_false_iff_ne.1 h) (by omega))
                  | refine caseb (fun h => absurd (eq_of_beq h) (by omega)) (fun _ => ?_)
                conv => whnf
                refine ⟨_, hRb, ?_⟩
                conv => whnf
                first
                  | refine caseb (fun h => absurd (bne_iff_ne.1 h) (by omega)) (fun _ => ?_)
                  | refine caseb (fun _ => ?_) (fun h => absurd (bne_eq_false_iff_eq.1 h) (by omega))
                conv => whnf
                refine ⟨_, hRb, ?_⟩
                conv => whnf
                first
                  | refine caseb (fun h => absurd (bne_iff_ne.1 h) (by omega)) (fun _ => ?_)
                  | refine caseb (fun _ => ?_) (fun h => absurd (bne_eq_false_iff_eq.1 h) (by omega))
                conv => whnf
                refine ⟨_, hRb, ?_⟩
                conv => whnf
                first
                  | refine caseb (fun h => absurd (bne_iff_ne.1 h) (by omega)) (fun _ => ?_)
                  | refine caseb (fun _ => ?_) (fun h => absurd (bne_eq_false_iff_eq.1 h) (by omega))
                conv => whnf
                refine ⟨_, hSb, ?_⟩
                conv => whnf
                refine ⟨_, hE, ?_⟩
                conv => whnf
                refine ⟨by omega, ?_⟩
                conv => whnf
                refine ⟨by omega, ?_⟩
                conv => whnf
                refine ⟨⟨Nat.le_refl _, noid3 n1 (noid_sl .i64 [1] false) n3⟩, ?_⟩
                conv => whnf
                refine ⟨(Nat.le_of_ble_eq_true rfl), _, hJ, ?_⟩
                conv => whnf
                refine ⟨by kernel_rfl, ?_⟩
                conv => whnf
                refine ⟨_, hRa, ?_⟩
                conv => whnf
                refine ⟨_, hRb, ?_⟩
                conv => whnf
                refine ⟨_, hl, ?_⟩
                conv => whnf
                refine ⟨by kernel_rfl, ?_⟩
                repeat
                  conv => whnf
                  first
                    | refine ⟨_, by assumption, ?_⟩
                    | refine ⟨(Nat.le_of_ble_eq_true rfl), _, by assumption, ?_⟩
                    | refine ⟨by kernel_rfl, ?_⟩
                    | exact rfl
                    | exact ⟨Nat.le_of_ble_eq_true rfl, rfl⟩
                    | refine ⟨by decide, ?_⟩
              · have eE1 : lamE s sb (k : Int) = 24 := by rw [eE, if_neg (fun h => b1 h.2), if_pos ⟨b0, b2⟩]
                rw [eE1] at r1
                rw [r1 (by decide)]
                rw [decide_eq_false b2] at hE
                conv => whnf
                first
                  | refine caseb (fun _ => ?_) (fun h => absurd (of_decide_eq_false h) (by omega))
                  | refine caseb (fun h => absurd (of_decide_eq_true h) (by omega)) (fun _ => ?_)
                  | refine caseb (fun _ => ?_) (fun h => absurd (beq_eq_false_iff_ne.1 h) (by omega))
                  | refine caseb (fun h => absurd (eq_of_beq h) (by omega)) (fun _ => ?_)
                conv => whnf
                first
                  | refine caseb (fun _ => ?_) (fun h => absurd (of_decide_eq_false h) (by omega))
                  | refine caseb (fun h => absurd (of_decide_eq_true h) (by omega)) (fun _ => ?_)
                  | refine caseb (fun _ => ?_) (fun h => absurd (beq_eq_false_iff_ne.1 h) (by omega))
                  | refine caseb (fun h => absurd (eq_of_beq h) (by omega)) (fun _ => ?_)
                conv => whnf
                refine ⟨_, hRb, ?_⟩
                conv => whnf
                first
                  | refine caseb (fun h => absurd (bne_iff_ne.1 h) (by omega)) (fun _ => ?_)
                  | refine caseb (fun _ => ?_) (fun h => absurd (bne_eq_false_iff_eq.1 h) (by omega))
                conv => whnf
                refine ⟨_, hRb, ?_⟩
                conv => whnf
                first
                  | refine caseb (fun h => absurd (bne_iff_ne.1 h) (by omega)) (fun _ => ?_)
                  | refine caseb (fun _ => ?_) (fun h => absurd (bne_eq_false_iff_eq.1 h) (by omega))
                conv => whnf
                refine ⟨_, hRb, ?_⟩
                conv => whnf
                first
                  | refine caseb (fun h => absurd (bne_iff_ne.1 h) (by omega)) (fun _ => ?_)
                  | refine caseb (fun _ => ?_) (fun h => absurd (bne_eq_false_iff_eq.1 h) (by omega))
                conv => whnf
                refine ⟨_, hSb, ?_⟩
                conv => whnf
                refine ⟨_, hE, ?_⟩
                repeat
                  conv => whnf
                  first
                    | refine ⟨_, by assumption, ?_⟩
                    | refine ⟨(Nat.le_of_ble_eq_true rfl), _, by assumption, ?_⟩
                    | refine ⟨by kernel_rfl, ?_⟩
                    | exact rfl
                    | exact ⟨Nat.le_of_ble_eq_true rfl, rfl⟩
                    | refine ⟨by decide, ?_⟩
end
end
section

section
variable (ca cb : Bool) (sa sb ta tb : List Int) (axis : Int)
end
end
section

theorem shows10_ok (sh : List Int) (ch : Bool) (tx : List Int) (ns : List (Option (Rat × Nat))) (h1 : sh.length ≤ 1000) (h2 : tx.length ≤ 100000) (h3 : ns.length ≤ 100000) (ho : ∀ o ∈ ns, okX o ∧ Sz (valX o) 100000) :
    AC Try.prog 20 [AA sh ch tx ns true, .val (.int .i64 0), PA sh ch tx (ns.map valX), .val (.int .i64 0)] (.pure (.val (.bool true))) := by
  refine AC.of_body TTok Try.func20 rfl (enter_of Try.func20 (by kernel_rfl) (by kernel_rfl)) (noidF (AA_noid _ _ _ _ _) (.val _) (PA_noid _ _ _ _) (.val _)) (.val _) (Nat.le_of_ble_eq_true rfl) ?_
  have hP := Plain_ok sh ch tx ns h1 h2 h3 ho
  have hS := PSame_ok sh ch tx (ns.map valX) h1 h2 (by rw [List.length_map]; exact h3)
  unfold AA PA at *
  repeat
    conv => whnf
    first
      | refine ⟨_, by assumption, ?_⟩
      | refine ⟨(Nat.le_of_ble_eq_true rfl), _, by assumption, ?_⟩
      | refine ⟨by kernel_rfl, ?_⟩
      | exact rfl
      | exact ⟨Nat.le_of_ble_eq_true rfl, rfl⟩
      | refine ⟨by decide, ?_⟩
/-- What comes of it is an array of few elements, or there is an error. -/
def goodR (r : JR) : Prop := r.1 = 0 → vS r.2.2.1 ∧ r.2.2.2.length ≤ 4096
/-- The whole numbers of a list. -/
theorem AWholeJ_ok (sh : List Int) (l : List Int) (hl : l.length ≤ 1000) (hI : ∀ n ∈ l, i64b n) : AC Try.prog 10 [AA sh false [] (l.map intX) true] (.pure (.tup [.sl 1 (irows .i64 l) false, .val (.bool true)])) := by
  refine AC.of_body TTok Try.func10 rfl (enter_of Try.func10 (by kernel_rfl) (by kernel_rfl)) (noid1 (AA_noid _ _ _ _ _)) (.tup _ (noid2 (noid_sl _ _ _) (.val _))) (Nat.le_of_ble_eq_true rfl) ?_
  unfold AA
  have lm : ((l.map intX).map rowX).length = l.length := by rw [List.length_map, List.length_map]
  conv => whnf
  refine SW.nil 4 1 rfl ?_
  refine SW.loopM TTok (fun i : Nat => [(1, .lp 0 0), (4, .own 120 0 i), (17, .sl 3 ((l.map intX).map rowX) false), (18, .val (.int .i64 (((l.map intX).map rowX).length : Nat))), (19, .val (.int .i64 (i : Int)))])
    (fun i => [(0, .cells 5 [[.sl 1 (irows .i64 sh) false, .val (.bool false), .sl 1 (irows .i32 []) false, .sl 3 ((l.map intX).map rowX) false, .val (.bool true)]]), (120, .cells 1 (irows .i64 (l.take i)))]) 128 36 rfl (fun i => l.length - i) (fun i => i ≤ l.length) 0 [] (Nat.zero_le _)
    ⟨⟨rfl, rfl⟩, ⟨rfl, rfl⟩, ⟨rfl, rfl⟩, ⟨rfl, rfl⟩, ⟨rfl, rfl⟩, trivial⟩ ⟨⟨rfl, .inr ⟨rfl, rfl⟩⟩, ⟨rfl, .inr ⟨rfl, rfl⟩⟩, trivial⟩ rfl ?_
  intro i hJ
  have hi : i ≤ l.length := hJ
  clear hJ
  have lr : (irows .i64 (l.take i)).length = i := by rw [irows_len, List.length_take]; omega
  by_cases hlt : i < l.length
  · have eI : IntKind.i64.wrap ((i : Int) + 1) = ((i + 1 : Nat) : Int) := by rw [IntWalk.i64_in _ (by omega)]; omega
    have hsn : irows .i64 (l.take i) ++ [[.val (.int .i64 l[i])]] = irows .i64 (l.take (i + 1)) := by
      rw [take_snoc hlt, ← irows_append]; rfl
    have htk : List.take i (List.drop 0 (irows .i64 (l.take i))) = irows .i64 (l.take i) := by rw [List.drop_zero, List.take_of_length_le (by omega)]
    obtain ⟨b1, b2⟩ := hI l[i] (List.getElem_mem hlt)
    have hg : ((l.map intX).map rowX)[i]? = some (rowX (intX l[i])) := by rw [List.getElem?_map, List.getElem?_map, List.getElem?_eq_getElem hlt]; rfl
    rw [intX_row] at hg
    obtain ⟨n, hn⟩ : ∃ n, n = l[i] := ⟨_, rfl⟩
    rw [← hn] at hg hsn b1 b2
    have hR := RInt_ok n 1
    have hf : fitQ n (dn 1) := ⟨rfl, by unfold fit; omega⟩
    rw [if_pos hf, decide_eq_true hf] at hR
    unfold RA at hR
    conv => whnf
    first
      | refine caseb (fun _ => ?_) (fun h => absurd (of_decide_eq_false h) (by omega))
      | refine caseb (fun h => absurd (of_decide_eq_true h) (by omega)) (fun _ => ?_)
      | refine caseb (fun _ => ?_) (fun h => absurd (beq_eq_false_iff_ne.1 h) (by omega))
      | refine caseb (fun h => absurd (eq_of_beq h) (by omega)) (fun _ => ?_)
    conv => whnf
    refine ⟨_, ⟨by omega, by rw [Int.toNat_natCast]; exact hg⟩, ?_⟩
    conv => whnf
    refine ⟨_, hR, ?_⟩
    conv => whnf
    refine ⟨⟨by show 0 + i ≤ _; omega, by show (i + 1) * 8 ≤ 140737488355328; omega, Nat.le_of_ble_eq_true rfl⟩, ?_⟩
    conv => whnf
    refine ⟨i + 1, [(120, 264)], (by show l.length - (i + 1) < l.length - i; omega), hlt, ⟨⟨rfl, rfl⟩, ⟨rfl, rfl⟩, ⟨rfl, rfl⟩, ⟨rfl, rfl⟩, ⟨valI eI, rfl⟩, trivial⟩, ⟨⟨rfl, .inr ⟨rfl, rfl⟩⟩, ⟨rfl, .inl ⟨celE ?_, irows_noid _ _⟩⟩, trivial⟩, rfl⟩
    rw [← hsn]
    show List.take i (List.drop 0 (irows .i64 (l.take i))) ++ [_] = _
    rw [htk]
    rfl
  · have hie : i = l.length := by omega
    have e1 : l.take i = l := List.take_of_length_le (by omega)
    rw [e1] at lr ⊢
    subst hie
    conv => whnf
    first
      | refine caseb (fun _ => ?_) (fun h => absurd (of_decide_eq_false h) (by omega))
      | refine caseb (fun h => absurd (of_decide_eq_true h) (by omega)) (fun _ => ?_)
      | refine caseb (fun _ => ?_) (fun h => absurd (beq_eq_false_iff_ne.1 h) (by omega))
      | refine caseb (fun h => absurd (eq_of_beq h) (by omega)) (fun _ => ?_)
    conv => whnf
    refine ⟨by show 0 + l.length ≤ _; omega, ?_⟩
    show AV.tup [AV.sl 1 (List.take l.length (List.drop 0 (irows .i64 l))) false, _] = _
    rw [List.drop_zero, List.take_of_length_le (by omega)]
    rfl
end
section

theorem wc1 : catJ false false 2 1 [2] [] (-1) = (0, false, [3], [0, 1, 2]) := by decide +kernel
theorem wl1 : lamJ false false 2 2 [2] [2] 1 = (0, false, [2, 2], [0, 2, 1, 3]) := by decide +kernel
theorem i64_small {n : Int} (h : -1000 ≤ n ∧ n ≤ 1000) : i64b n := ⟨by omega, by omega⟩
theorem awake10_ok : AC Try.prog 16 [] (.pure (.val (.bool true))) := by
  have C1 := Cat_ok false false [2] [] [] [] (-1) ([1, 2].map intX) [some (((3 : Int) : Rat), 1)] (by decide) (by decide) (by unfold kinds; decide) (by unfold kinds; decide) (by decide) (by decide) (by decide) (by decide)
  have C2 := Lam_ok false false [2] [2] [] [] 1 ([1, 2].map intX) ([3, 4].map intX) (by decide) (by decide) (by unfold kinds; decide) (by unfold kinds; decide) (by decide) (by decide) (by decide) (by decide)
  have C1 : AC Try.prog 17 [AA [2] false [] ([1, 2].map intX) true, AA [] false [] [some (((3 : Int) : Rat), 1)] true, .val (.int .i64 (-1))] (.pure (resJ (catJ false false 2 1 [2] [] (-1)) [] [] ([1, 2].map intX) [some (((3 : Int) : Rat), 1)])) := C1
  have C2 : AC Try.prog 34 [AA [2] false [] ([1, 2].map intX) true, AA [2] false [] ([3, 4].map intX) true, .val (.int .i64 1)] (.pure (resJ (lamJ false false 2 2 [2] [2] 1) [] [] ([1, 2].map intX) ([3, 4].map intX))) := C2
  rw [wc1] at C1
  rw [wl1] at C2
  have C1 : AC Try.prog 17 [AA [2] false [] ([1, 2].map intX) true, AA [] false [] [some (((3 : Int) : Rat), 1)] true, .val (.int .i64 (-1))] (.pure (.tup [AA [3] false [] ([1, 2, 3].map intX) true, .val (.int .i64 0)])) := C1
  have C2 : AC Try.prog 34 [AA [2] false [] ([1, 2].map intX) true, AA [2] false [] ([3, 4].map intX) true, .val (.int .i64 1)] (.pure (.tup [AA [2, 2] false [] ([1, 3, 2, 4].map intX) true, .val (.int .i64 0)])) := C2
  have I1 := AInts_ok [1, 2] (by decide) (fun n hn => by simp at hn; rcases hn with rfl | rfl <;> exact i64_small (by decide))
  have I2 := AInts_ok [3, 4] (by decide) (fun n hn => by simp at hn; rcases hn with rfl | rfl <;> exact i64_small (by decide))
  have I3 := AInt_ok 3 (by decide)
  have R1 := RInts_ok [1, 2, 3] (by decide) (fun n hn => by simp at hn; rcases hn with rfl | rfl | rfl <;> exact i64_small (by decide))
  have V : ([1, 2, 3].map intX).map valX = [1, 2, 3].map (fun n : Int => (n : Rat)) := rfl
  have H1 := shows10_ok [3] false [] ([1, 2, 3].map intX) (by decide) (by decide) (by decide) (fun o ho => by
    obtain ⟨n, hn, rfl⟩ := List.mem_map.1 ho
    refine ⟨?_, ?_⟩
    · simp only [List.mem_cons, List.not_mem_nil, or_false] at hn
      rcases hn with rfl | rfl | rfl <;> exact rfl
    · simp only [List.mem_cons, List.not_mem_nil, or_false] at hn
      rcases hn with rfl | rfl | rfl
      · exact (sz_nat 1 (by decide)).mono (by decide)
      · exact (sz_nat 2 (by decide)).mono (by decide)
      · exact (sz_nat 3 (by decide)).mono (by decide))
  rw [V] at H1
  have W := AWholeJ_ok [2, 2] [1, 3, 2, 4] (by decide) (fun n hn => by simp at hn; rcases hn with rfl | rfl | rfl | rfl <;> exact i64_small (by decide))
  have K := Rank_ok [2, 2] false [] ([1, 3, 2, 4].map intX) (by decide)
  have E := IntsSame_ok [1, 3, 2, 4] [1, 3, 2, 4] (by decide) (by decide)
  rw [decide_eq_true rfl] at E
  have I1 : AC Try.prog 6 [.sl 1 (irows .i64 [1, 2]) false] (.pure (AA [2] false [] ([1, 2].map intX) true)) := I1
  have I2 : AC Try.prog 6 [.sl 1 (irows .i64 [3, 4]) false] (.pure (AA [2] false [] ([3, 4].map intX) true)) := I2
  have R1 : AC Try.prog 15 [.sl 1 (irows .i64 [1, 2, 3]) false] (.pure (PA [3] false [] ([1, 2, 3].map (fun n : Int => (n : Rat))))) := R1
  generalize ([1, 2] : List Int).map intX = z1 at *
  generalize ([3, 4] : List Int).map intX = z2 at *
  generalize ([1, 2, 3] : List Int).map intX = z3 at *
  generalize ([1, 3, 2, 4] : List Int).map intX = z4 at *
  generalize ([1, 2, 3] : List Int).map (fun n : Int => (n : Rat)) = z5 at *
  generalize [some (((3 : Int) : Rat), 1)] = z6 at *
  refine AC.of_body TTok Try.func16 rfl (enter_of Try.func16 (by kernel_rfl) (by kernel_rfl)) (fun x hx => nomatch hx) (.val _) (Nat.le_of_ble_eq_true rfl) ?_
  unfold AA PA at *
  conv => whnf
  refine ⟨(Nat.le_of_ble_eq_true rfl), _, I1, ?_⟩
  conv => whnf
  refine ⟨_, I3, ?_⟩
  conv => whnf
  refine ⟨_, C1, ?_⟩
  conv => whnf
  refine ⟨(Nat.le_of_ble_eq_true rfl), _, I1, ?_⟩
  conv => whnf
  refine ⟨(Nat.le_of_ble_eq_true rfl), _, I2, ?_⟩
  conv => whnf
  refine ⟨_, C2, ?_⟩
  conv => whnf
  refine ⟨_, W, ?_⟩
  conv => whnf
  refine ⟨(Nat.le_of_ble_eq_true rfl), _, R1, ?_⟩
  conv => whnf
  refine ⟨_, H1, ?_⟩
  repeat
    conv => whnf
    first
      | refine ⟨_, by assumption, ?_⟩
      | refine ⟨(Nat.le_of_ble_eq_true rfl), _, by assumption, ?_⟩
      | refine ⟨by kernel_rfl, ?_⟩
      | exact rfl
      | exact ⟨Nat.le_of_ble_eq_true rfl, rfl⟩
      | refine ⟨by decide, ?_⟩
end
section

theorem EqualR_ok (a b : List Int) (ha : a.length ≤ 1000000) (hb : b.length ≤ 1000000) : AC Try.prog 40 [.sl 1 (irows .i32 a) false, .sl 1 (irows .i32 b) false] (.pure (.val (.bool (decide (a = b))))) := by
  refine AC.of_body TTok Try.func40 rfl (enter_of Try.func40 (by kernel_rfl) (by kernel_rfl)) (noid2 (noid_sl _ _ _) (noid_sl _ _ _)) (.val _) (Nat.le_of_ble_eq_true rfl) ?_
  have h1 := irows_len .i32 a
  have h2 := irows_len .i32 b
  by_cases hl : a.length = b.length
  · have tl : (((irows .i32 a).length : Int) != ((irows .i32 b).length : Int)) = false := by rw [h1, h2, hl]; simp
    conv => whnf
    refine caseb (fun h => Bool.noConfusion ((tl).symm.trans h)) (fun _ => ?_)
    conv => whnf
    refine SW.loopM TTok (fun i : Nat => [(0, .sl 1 (irows .i32 a) false), (1, .sl 1 (irows .i32 b) false), (12, .val (.int .i64 ((irows .i32 a).length : Int))), (13, .val (.int .i64 (i : Int)))]) (fun i => []) 72 26 rfl (fun i => a.length - i) (fun i => i ≤ a.length ∧ a.take i = b.take i) 0 [] ⟨Nat.zero_le _, rfl⟩
      ⟨⟨rfl, rfl⟩, ⟨rfl, rfl⟩, ⟨rfl, rfl⟩, ⟨rfl, rfl⟩, trivial⟩ trivial rfl ?_
    intro i hJ
    have hi : i ≤ a.length := hJ.1
    have ht : a.take i = b.take i := hJ.2
    clear hJ
    by_cases hlt : i < a.length
    · have hlt' : i < b.length := by omega
      have g1 := irows_get .i32 a (List.getElem?_eq_getElem hlt)
      have g2 := irows_get .i32 b (List.getElem?_eq_getElem hlt')
      have eI : IntKind.i64.wrap ((i : Int) + 1) = ((i + 1 : Nat) : Int) := by rw [IntWalk.i64_in _ (by omega)]; omega
      by_cases he : a[i] = b[i]
      · have te : (a[i] != b[i]) = false := by rw [he]; simp
        conv => whnf
        first
          | refine caseb (fun _ => ?_) (fun h => absurd (of_decide_eq_false h) (by omega))
          | refine caseb (fun h => absurd (of_decide_eq_true h) (by omega)) (fun _ => ?_)
          | refine caseb (fun _ => ?_) (fun h => absurd (beq_eq_false_iff_ne.1 h) (by omega))
          | refine caseb (fun h => absurd (eq_of_beq h) (by omega)) (fun _ => ?_)
        conv => whnf
        refine ⟨_, ⟨by omega, g1⟩, ?_⟩
        conv => whnf
        refine ⟨_, ⟨by omega, g2⟩, ?_⟩
        conv => whnf
        refine ⟨by kernel_rfl, ?_⟩
        conv => whnf
        refine caseb (fun h => Bool.noConfusion ((te).symm.trans h)) (fun _ => ?_)
        conv => whnf
        refine ⟨i + 1, [], (by show a.length - (i + 1) < a.length - i; omega), ⟨hlt, (by show a.take (i + 1) = b.take (i + 1); rw [take_snoc hlt, take_snoc hlt', ht, he])⟩, ⟨⟨rfl, rfl⟩, ⟨rfl, rfl⟩, ⟨rfl, rfl⟩, ⟨valI eI, rfl⟩, trivial⟩, trivial, rfl⟩
      · have te : (a[i] != b[i]) = true := by simpa using he
        rw [decide_eq_false (fun e => he (by subst e; rfl))]
        conv => whnf
        first
          | refine caseb (fun _ => ?_) (fun h => absurd (of_decide_eq_false h) (by omega))
          | refine caseb (fun h => absurd (of_decide_eq_true h) (by omega)) (fun _ => ?_)
          | refine caseb (fun _ => ?_) (fun h => absurd (beq_eq_false_iff_ne.1 h) (by omega))
          | refine caseb (fun h => absurd (eq_of_beq h) (by omega)) (fun _ => ?_)
        conv => whnf
        refine ⟨_, ⟨by omega, g1⟩, ?_⟩
        conv => whnf
        refine ⟨_, ⟨by omega, g2⟩, ?_⟩
        conv => whnf
        refine ⟨by kernel_rfl, ?_⟩
        conv => whnf
        refine caseb (fun _ => ?_) (fun h => Bool.noConfusion ((te).symm.trans h))
        repeat
          conv => whnf
          first
            | refine ⟨_, by assumption, ?_⟩
            | refine ⟨(Nat.le_of_ble_eq_true rfl), _, by assumption, ?_⟩
            | refine ⟨by kernel_rfl, ?_⟩
            | exact rfl
            | exact ⟨Nat.le_of_ble_eq_true rfl, rfl⟩
            | refine ⟨by decide, ?_⟩
    · have hie : i = a.length := by omega
      rw [decide_eq_true (by rw [hie, List.take_length, hl, List.take_length] at ht; exact ht)]
      conv => whnf
      first
        | refine caseb (fun _ => ?_) (fun h => absurd (of_decide_eq_false h) (by omega))
        | refine caseb (fun h => absurd (of_decide_eq_true h) (by omega)) (fun _ => ?_)
        | refine caseb (fun _ => ?_) (fun h => absurd (beq_eq_false_iff_ne.1 h) (by omega))
        | refine caseb (fun h => absurd (eq_of_beq h) (by omega)) (fun _ => ?_)
      repeat
        conv => whnf
        first
          | refine ⟨_, by assumption, ?_⟩
          | refine ⟨(Nat.le_of_ble_eq_true rfl), _, by assumption, ?_⟩
          | refine ⟨by kernel_rfl, ?_⟩
          | exact rfl
          | exact ⟨Nat.le_of_ble_eq_true rfl, rfl⟩
          | refine ⟨by decide, ?_⟩
  · have tl : (((irows .i32 a).length : Int) != ((irows .i32 b).length : Int)) = true := by rw [h1, h2]; simpa using (show ¬ (a.length : Int) = b.length by omega)
    rw [decide_eq_false (fun e => hl (by rw [e]))]
    conv => whnf
    refine caseb (fun _ => ?_) (fun h => Bool.noConfusion ((tl).symm.trans h))
    repeat
      conv => whnf
      first
        | refine ⟨_, by assumption, ?_⟩
        | refine ⟨(Nat.le_of_ble_eq_true rfl), _, by assumption, ?_⟩
        | refine ⟨by kernel_rfl, ?_⟩
        | exact rfl
        | exact ⟨Nat.le_of_ble_eq_true rfl, rfl⟩
        | refine ⟨by decide, ?_⟩
theorem rowX_three (o : Option (Rat × Nat)) : ∃ k r b s k' r' b', rowX o = [.sl k r b, .val (.bool s), .sl k' r' b'] := by
  cases o with
  | none => exact ⟨_, _, _, _, _, _, _, rfl⟩
  | some p => exact ⟨_, _, _, _, _, _, _, rfl⟩
/-- Two numbers of the same value are told the same. -/
theorem Same1_ok (a b : Option (Rat × Nat)) (ha : okX a) (hb : okX b) (h : valX a = valX b) (hs : Sz (valX a) 1000) : AC Try.prog 42 [.agg (rowX a), .agg (rowX b)] (.pure (.val (.bool true))) := by
  have hs' : Sz (valX b) 1000 := by rw [← h]; exact hs
  have hc := QCmp_ok (valX a) (valX b) (denX a) (denX b) (denX_ok ha) (denX_ok hb) hs hs'
  have e0 : cmpQ (valX a) (valX b) = 0 := by rw [← h]; exact cmpQ_self _
  rw [e0] at hc
  have hc : AC Try.prog 43 [.agg (rowX a), .agg (rowX b)] (.pure (.val (.int .i64 0))) := AC.le_args hc rfl (fun i x y hx hy => by
    match i with
    | 0 => cases hx; cases hy; exact rowX_le a
    | 1 => cases hx; cases hy; exact rowX_le b
    | (i + 2) => cases hx) (noid2 (.agg _ (rowX_noid a)) (.agg _ (rowX_noid b)))
  have n1 := rowX_noid a
  have n2 := rowX_noid b
  obtain ⟨x1, y1, z1, s1, p1, q1, r1, w1⟩ := rowX_three a
  obtain ⟨x2, y2, z2, s2, p2, q2, r2, w2⟩ := rowX_three b
  rw [w1, w2] at hc ⊢
  rw [w1] at n1
  rw [w2] at n2
  refine AC.of_body TTok Try.func42 rfl (enter_of Try.func42 (by kernel_rfl) (by kernel_rfl)) (noid2 (.agg _ n1) (.agg _ n2)) (.val _) (Nat.le_of_ble_eq_true rfl) ?_
  conv => whnf
  refine ⟨_, hc, ?_⟩
  repeat
    conv => whnf
    first
      | refine ⟨_, by assumption, ?_⟩
      | refine ⟨(Nat.le_of_ble_eq_true rfl), _, by assumption, ?_⟩
      | refine ⟨by kernel_rfl, ?_⟩
      | exact rfl
      | exact ⟨Nat.le_of_ble_eq_true rfl, rfl⟩
      | refine ⟨by decide, ?_⟩
/-- Numbers of the same values, one by one. -/
theorem EqFn_ok (na nb : List (Option (Rat × Nat))) (h : na.map valX = nb.map valX) (h4 : na.length ≤ 100000) (oa : ∀ o ∈ na, okX o) (ob : ∀ o ∈ nb, okX o) (hs : ∀ o ∈ na, Sz (valX o) 1000) : AC Try.prog 41 [.sl 3 (na.map rowX) false, .sl 3 (nb.map rowX) false, .val (.func (.func 42) #[] #[])] (.pure (.val (.bool true))) := by
  have hl : na.length = nb.length := by have := congrArg List.length h; rw [List.length_map, List.length_map] at this; exact this
  have la : (na.map rowX).length = na.length := List.length_map _
  have lb : (nb.map rowX).length = nb.length := List.length_map _
  refine AC.of_body TTok Try.func41 rfl (enter_of Try.func41 (by kernel_rfl) (by kernel_rfl)) (noid3 (slX_noid _) (slX_noid _) (.val _)) (.val _) (Nat.le_of_ble_eq_true rfl) ?_
  have tl : (((na.map rowX).length : Int) != ((nb.map rowX).length : Int)) = false := by rw [la, lb, hl]; simp
  conv => whnf
  refine caseb (fun h => Bool.noConfusion ((tl).symm.trans h)) (fun _ => ?_)
  conv => whnf
  refine SW.loopM TTok (fun i : Nat => [(0, .sl 3 (na.map rowX) false), (1, .sl 3 (nb.map rowX) false), (2, .val (.func (.func 42) #[] #[])), (15, .sl 3 (na.map rowX) false), (16, .val (.int .i64 ((na.map rowX).length : Int))), (17, .val (.int .i64 (i : Int)))]) (fun i => []) 72 32 rfl (fun i => na.length - i) (fun i => i ≤ na.length) 0 [] (Nat.zero_le _)
    ⟨⟨rfl, rfl⟩, ⟨rfl, rfl⟩, ⟨rfl, rfl⟩, ⟨rfl, rfl⟩, ⟨rfl, rfl⟩, ⟨rfl, rfl⟩, trivial⟩ trivial rfl ?_
  intro i hJ
  have hi : i ≤ na.length := hJ
  clear hJ
  by_cases hlt : i < na.length
  · have hlt' : i < nb.length := by omega
    have g1 : (na.map rowX)[i]? = some (rowX na[i]) := by rw [List.getElem?_map, List.getElem?_eq_getElem hlt]; rfl
    have g2 : (nb.map rowX)[i]? = some (rowX nb[i]) := by rw [List.getElem?_map, List.getElem?_eq_getElem hlt']; rfl
    have ev : valX na[i] = valX nb[i] := by
      have e1 : (na.map valX)[i]? = some (valX na[i]) := by rw [List.getElem?_map, List.getElem?_eq_getElem hlt]; rfl
      have e2 : (nb.map valX)[i]? = some (valX nb[i]) := by rw [List.getElem?_map, List.getElem?_eq_getElem hlt']; rfl
      rw [h, e2] at e1
      exact (Option.some.inj e1).symm
    have hS := Same1_ok na[i] nb[i] (oa _ (List.getElem_mem hlt)) (ob _ (List.getElem_mem hlt')) ev (hs _ (List.getElem_mem hlt))
    have eI : IntKind.i64.wrap ((i : Int) + 1) = ((i + 1 : Nat) : Int) := by rw [IntWalk.i64_in _ (by omega)]; omega
    obtain ⟨x1, y1, z1, s1, p1, q1, r1, w1⟩ := rowX_three na[i]
    obtain ⟨x2, y2, z2, s2, p2, q2, r2, w2⟩ := rowX_three nb[i]
    rw [w1, w2] at hS
    rw [w1] at g1
    rw [w2] at g2
    conv => whnf
    first
      | refine caseb (fun _ => ?_) (fun h => absurd (of_decide_eq_false h) (by omega))
      | refine caseb (fun h => absurd (of_decide_eq_true h) (by omega)) (fun _ => ?_)
      | refine caseb (fun _ => ?_) (fun h => absurd (beq_eq_false_iff_ne.1 h) (by omega))
      | refine caseb (fun h => absurd (eq_of_beq h) (by omega)) (fun _ => ?_)
    conv => whnf
    refine ⟨_, ⟨by omega, by rw [Int.toNat_natCast]; exact g1⟩, ?_⟩
    conv => whnf
    refine ⟨_, ⟨by omega, by rw [Int.toNat_natCast]; exact g2⟩, ?_⟩
    conv => whnf
    refine ⟨_, hS, ?_⟩
    conv => whnf
    exact ⟨i + 1, [], (by show na.length - (i + 1) < na.length - i; omega), hlt, ⟨⟨rfl, rfl⟩, ⟨rfl, rfl⟩, ⟨rfl, rfl⟩, ⟨rfl, rfl⟩, ⟨rfl, rfl⟩, ⟨valI eI, rfl⟩, trivial⟩, trivial, rfl⟩
  · conv => whnf
    first
      | refine caseb (fun _ => ?_) (fun h => absurd (of_decide_eq_false h) (by omega))
      | refine caseb (fun h => absurd (of_decide_eq_true h) (by omega)) (fun _ => ?_)
      | refine caseb (fun _ => ?_) (fun h => absurd (beq_eq_false_iff_ne.1 h) (by omega))
      | refine caseb (fun h => absurd (eq_of_beq h) (by omega)) (fun _ => ?_)
    repeat
      conv => whnf
      first
        | refine ⟨_, by assumption, ?_⟩
        | refine ⟨(Nat.le_of_ble_eq_true rfl), _, by assumption, ?_⟩
        | refine ⟨by kernel_rfl, ?_⟩
        | exact rfl
        | exact ⟨Nat.le_of_ble_eq_true rfl, rfl⟩
        | refine ⟨by decide, ?_⟩
theorem Same_ok (s : List Int) (na nb : List (Option (Rat × Nat))) (h8 : s.length ≤ 1000) (h : na.map valX = nb.map valX) (h4 : na.length ≤ 100000) (oa : ∀ o ∈ na, okX o) (ob : ∀ o ∈ nb, okX o) (hs : ∀ o ∈ na, Sz (valX o) 1000) : AC Try.prog 18 [AA s false [] na true, AA s false [] nb true] (.pure (.val (.bool true))) := by
  have h1 := Shape_ok s false [] na (by omega)
  have h2 := Shape_ok s false [] nb (by omega)
  have h3 := Equal_ok s s (by omega) (by omega)
  rw [decide_eq_true rfl] at h3
  have h5 := EqualR_ok [] [] (by decide) (by decide)
  rw [decide_eq_true rfl] at h5
  have h6 := EqFn_ok na nb h h4 oa ob hs
  refine AC.of_body TTok Try.func18 rfl (enter_of Try.func18 (by kernel_rfl) (by kernel_rfl)) (noid2 (AA_noid _ _ _ _ _) (AA_noid _ _ _ _ _)) (.val _) (Nat.le_of_ble_eq_true rfl) ?_
  unfold AA at *
  conv => whnf
  refine ⟨_, h1, ?_⟩
  conv => whnf
  refine ⟨_, h2, ?_⟩
  conv => whnf
  refine ⟨_, h3, ?_⟩
  conv => whnf
  refine ⟨_, h5, ?_⟩
  conv => whnf
  refine ⟨_, h6, ?_⟩
  conv => whnf
  refine ⟨by kernel_rfl, ?_⟩
  repeat
    conv => whnf
    first
      | refine ⟨_, by assumption, ?_⟩
      | refine ⟨(Nat.le_of_ble_eq_true rfl), _, by assumption, ?_⟩
      | refine ⟨by kernel_rfl, ?_⟩
      | exact rfl
      | exact ⟨Nat.le_of_ble_eq_true rfl, rfl⟩
      | refine ⟨by decide, ?_⟩
end
section

theorem range_getX (na : List (Option (Rat × Nat))) : ((List.range na.length).map fun i : Nat => (i : Int)).map (getX na) = na := by
  refine List.ext_getElem (by simp) fun i h1 h2 => ?_
  rw [List.getElem_map, List.getElem_map, List.getElem_range]
  unfold getX
  rw [if_pos (Int.natCast_nonneg _), Int.toNat_natCast, List.getD_eq_getElem?_getD, List.getElem?_eq_getElem h2]
  rfl
theorem fitJ_list (a b : Int) : fitJ [a] [b] 0 = ([a], false, 0) := by
  unfold fitJ
  rw [if_neg (fun h => nomatch h)]
  simp
theorem cat_list (n m : Nat) (ax : Int) (hax : ax = -1 ∨ ax = 0) (h : n + m ≤ 4000) : catJ false false n m [(n : Int)] [(m : Int)] ax = (0, false, [((n + m : Nat) : Int)], (List.range (n + m)).map fun i : Nat => (i : Int)) := by
  obtain ⟨v1, _⟩ := vS_single (n + m) (by omega)
  have e1 : catS [(n : Int)] [(m : Int)] = [(n : Int)] := by
    unfold catS
    rw [if_neg (show ¬ [(n : Int)].length < [(m : Int)].length from Nat.lt_irrefl 1), if_neg (fun h => nomatch h)]
  have e2 : catK [(n : Int)] ax = 0 := by
    unfold catK
    rcases hax with rfl | rfl <;> rfl
  unfold catJ
  rw [e1, e2]
  show (if (1 : Int) ≤ 0 then _ else _) = _
  rw [if_neg (by decide)]
  show (if (fitJ [(n : Int)] [(n : Int)] 0).2.2 ≠ 0 then _ else if (fitJ [(m : Int)] [(n : Int)] 0).2.2 ≠ 0 then _ else laidJ false (fitJ [(n : Int)] [(n : Int)] 0).1 (fitJ [(m : Int)] [(n : Int)] 0).1 0 n (decide ([(n : Int)] = [])) (decide ([(m : Int)] = []))) = _
  rw [fitJ_list, fitJ_list, if_neg (fun h => h rfl), if_neg (fun h => h rfl)]
  have d1 : decide ([(n : Int)] = []) = false := decide_eq_false (fun h => nomatch h)
  have d2 : decide ([(m : Int)] = []) = false := decide_eq_false (fun h => nomatch h)
  rw [d1, d2]
  unfold laidJ
  show (if vS [(n : Int) + (m : Int)] then ((0 : Int), false, [(n : Int) + (m : Int)], (List.range (pr [(n : Int) + (m : Int)])).map (atJ (n : Int).toNat (m : Int).toNat 1 n false false)) else _) = _
  rw [← Int.natCast_add, if_pos v1]
  have ep : pr [((n + m : Nat) : Int)] = n + m := by
    show ((n + m : Nat) : Int).toNat * 1 = n + m
    rw [Int.toNat_natCast, Nat.mul_one]
  rw [ep]
  congr 3
  refine List.map_congr_left fun i hi => ?_
  have hi := List.mem_range.1 hi
  unfold atJ
  rw [Int.toNat_natCast, Int.toNat_natCast, Nat.div_one, Nat.mod_one, Nat.mod_eq_of_lt hi, Nat.div_eq_of_lt hi, Nat.zero_mul, Nat.zero_mul, if_neg Bool.false_ne_true, if_neg Bool.false_ne_true]
  split
  · congr 1
    omega
  · congr 1
    omega
theorem kinds_list (na : List (Option (Rat × Nat))) (h : na.length ≤ 4000) : kinds [(na.length : Int)] false ([] : List Int).length na.length := by
  obtain ⟨_, c1⟩ := vS_single na.length (by omega)
  unfold kinds
  rw [c1]
  exact ⟨rfl, rfl⟩
theorem Cat_lists (na nb : List (Option (Rat × Nat))) (ax : Int) (hax : ax = -1 ∨ ax = 0) (ha : na.length ≤ 1000) (hb : nb.length ≤ 1000) :
    AC Try.prog 17 [AA [(na.length : Int)] false [] na true, AA [(nb.length : Int)] false [] nb true, .val (.int .i64 ax)] (.pure (.tup [AA [((na ++ nb).length : Int)] false [] (na ++ nb) true, .val (.int .i64 0)])) := by
  have h := Cat_ok false false [(na.length : Int)] [(nb.length : Int)] [] [] ax na nb (vS_single na.length (by omega)).1 (vS_single nb.length (by omega)).1 (kinds_list na (by omega)) (kinds_list nb (by omega)) (by decide) (by decide) ha hb
  have e : catJ false false (([] : List Int).length + na.length) (([] : List Int).length + nb.length) [(na.length : Int)] [(nb.length : Int)] ax = (0, false, [((na.length + nb.length : Nat) : Int)], (List.range (na.length + nb.length)).map fun i : Nat => (i : Int)) := by
    show catJ false false (0 + na.length) (0 + nb.length) _ _ _ = _
    rw [Nat.zero_add, Nat.zero_add]
    exact cat_list _ _ ax hax (by omega)
  rw [e] at h
  have h : AC Try.prog 17 [AA [(na.length : Int)] false [] na true, AA [(nb.length : Int)] false [] nb true, .val (.int .i64 ax)] (.pure (.tup [AA [((na.length + nb.length : Nat) : Int)] false [] (((List.range (na.length + nb.length)).map fun i : Nat => (i : Int)).map (getX (na ++ nb))) true, .val (.int .i64 0)])) := h
  have el : na.length + nb.length = (na ++ nb).length := List.length_append.symm
  rw [el, range_getX] at h
  exact h
theorem sizeI_nat (k : Nat) (h : k ≤ 4000) : sizeI (k : Int) = (k : Int) := by
  unfold sizeI
  rw [if_neg (by omega)]
  omega
theorem win_list (n k f : Nat) (h : f + k ≤ n) (h4 : n ≤ 4000) : (List.range (pr [(k : Int)])).map (fun i => plS 0 [(n : Int)] (addL (dig [(k : Int)] i) [(f : Int)])) = (List.range k).map fun i : Nat => ((f + i : Nat) : Int) := by
  have ep : pr [(k : Int)] = k := by
    show (k : Int).toNat * 1 = k
    rw [Int.toNat_natCast, Nat.mul_one]
  rw [ep]
  refine List.map_congr_left fun i hi => ?_
  have hi := List.mem_range.1 hi
  show plS 0 [(n : Int)] [((i / 1 : Nat) : Int) + (f : Int)] = _
  rw [Nat.div_one]
  show (if ((i : Int) + (f : Int)) < 0 ∨ (n : Int) ≤ (i : Int) + (f : Int) then -1 else 0 * (n : Int) + ((i : Int) + (f : Int))) = _
  rw [if_neg (by omega)]
  omega
theorem pick_win (xs : List (Option (Rat × Nat))) (k f : Nat) (h : f + k ≤ xs.length) : pickX false xs ((List.range k).map fun i : Nat => ((f + i : Nat) : Int)) = (xs.drop f).take k := by
  unfold pickX
  rw [if_neg Bool.false_ne_true]
  refine List.ext_getElem (by rw [List.length_map, List.length_map, List.length_range, List.length_take, List.length_drop]; omega) fun i h1 h2 => ?_
  have hi : i < k := by rw [List.length_map, List.length_map, List.length_range] at h1; exact h1
  rw [List.getElem_map, List.getElem_map, List.getElem_range, List.getElem_take, List.getElem_drop]
  unfold getX
  rw [if_pos (Int.natCast_nonneg _), Int.toNat_natCast, List.getD_eq_getElem?_getD, List.getElem?_eq_getElem (by omega)]
  rfl
theorem i64_nat (k : Nat) (h : k ≤ 4000) : ∀ n ∈ [(k : Int)], i64b n := fun n hn => by rw [List.mem_singleton.1 hn]; exact ⟨by omega, by omega⟩
/-- The first ones of a list. -/
theorem Take_pre (xs : List (Option (Rat × Nat))) (k : Nat) (h : k ≤ xs.length) (h4 : xs.length ≤ 4000) : AC Try.prog 7 [AA [] false [] [intX (k : Int)] true, AA [(xs.length : Int)] false [] xs true] (.pure (.tup [AA [(k : Int)] false [] (xs.take k) true, .val (.int .i64 0)])) := by
  obtain ⟨v1, _⟩ := vS_single xs.length (by omega)
  obtain ⟨v2, _⟩ := vS_single k (by omega)
  have eM : takeM [(k : Int)] = [(k : Int)] := by show [sizeI (k : Int)] = _; rw [sizeI_nat k (by omega)]
  have eF : takeF [(k : Int)] [(xs.length : Int)] = [((0 : Nat) : Int)] := by
    show [(if (k : Int) < 0 then (xs.length : Int) - sizeI (k : Int) else 0)] = _
    rw [if_neg (by omega)]
    rfl
  have hW := window_ok [(xs.length : Int)] false [] xs [(xs.length : Int)] [((0 : Nat) : Int)] [(k : Int)] v2 v1 rfl rfl (fun x hx => by rw [List.mem_singleton.1 hx]; decide) (by decide) (by omega) _ (win_list xs.length k 0 (by omega) h4).symm
  rw [pick_win xs k 0 (by omega), List.drop_zero] at hW
  exact Take_ok [] [(k : Int)] [(xs.length : Int)] false [] xs (by decide) (i64_nat k (by omega)) (fun e => nomatch e) v1 rfl [(k : Int)] false [] (xs.take k) true 0 (by rw [eM, eF]; exact hW)
/-- A list without its first ones. -/
theorem Drop_post (xs : List (Option (Rat × Nat))) (k : Nat) (h : k ≤ xs.length) (h4 : xs.length ≤ 4000) : AC Try.prog 9 [AA [] false [] [intX (k : Int)] true, AA [(xs.length : Int)] false [] xs true] (.pure (.tup [AA [((xs.length - k : Nat) : Int)] false [] (xs.drop k) true, .val (.int .i64 0)])) := by
  obtain ⟨v1, _⟩ := vS_single xs.length (by omega)
  obtain ⟨v2, _⟩ := vS_single (xs.length - k) (by omega)
  have eM : dropM [(k : Int)] [(xs.length : Int)] = [((xs.length - k : Nat) : Int)] := by
    show [max 0 ((xs.length : Int) - sizeI (k : Int))] = _
    rw [sizeI_nat k (by omega)]
    congr 1
    omega
  have eF : dropF [(k : Int)] = [(k : Int)] := by
    show [(if 0 < (k : Int) then sizeI (k : Int) else 0)] = _
    rw [sizeI_nat k (by omega)]
    congr 1
    split <;> omega
  have hW := window_ok [(xs.length : Int)] false [] xs [(xs.length : Int)] [(k : Int)] [((xs.length - k : Nat) : Int)] v2 v1 rfl rfl (fun x hx => by rw [List.mem_singleton.1 hx]; omega) (by decide) (by omega) _ (win_list xs.length (xs.length - k) k (by omega) h4).symm
  rw [pick_win xs (xs.length - k) k (by omega), List.take_of_length_le (by rw [List.length_drop]; exact Nat.le_refl _)] at hW
  exact Drop_ok [] [(k : Int)] [(xs.length : Int)] false [] xs (by decide) (i64_nat k (by omega)) (fun e => nomatch e) v1 rfl [((xs.length - k : Nat) : Int)] false [] (xs.drop k) true 0 (by rw [eM, eF]; exact hW)
end
end Go.Proofs.Ytcdeiegpeiodjaa

namespace Go.Proofs.Ytcdeiegpeiodjaa.joinBack
open Go Go.AL NM
section

section
variable (x y z : List Int)
theorem nd : ∀ v ∈ [AV.sl 1 (irows .i8 x) false, AV.sl 1 (irows .i8 y) false, AV.sl 1 (irows .i8 z) false], NoId v := noid3 (noid_sl _ _ _) (noid_sl _ _ _) (noid_sl _ _ _)
theorem bad (h : 200 < x.length ∨ 200 < y.length ∨ 200 < z.length) : AC Try.prog 4 [.sl 1 (irows .i8 x) false, .sl 1 (irows .i8 y) false, .sl 1 (irows .i8 z) false] (.pure (.val (.bool true))) := by
  have hA := awake10_ok
  have l1 := irows_len .i8 x
  have l2 := irows_len .i8 y
  have l3 := irows_len .i8 z
  refine AC.of_body TTok Try.func4 rfl (enter_of Try.func4 (by kernel_rfl) (by kernel_rfl)) (nd x y z) (.val _) (Nat.le_of_ble_eq_true rfl) ?_
  by_cases h1 : 200 < x.length
  · conv => whnf
    first
      | refine caseb (fun _ => ?_) (fun h => absurd (of_decide_eq_false h) (by omega))
      | refine caseb (fun h => absurd (of_decide_eq_true h) (by omega)) (fun _ => ?_)
      | refine caseb (fun _ => ?_) (fun h => absurd (beq_eq_false_iff_ne.1 h) (by omega))
      | refine caseb (fun h => absurd (eq_of_beq h) (by omega)) (fun _ => ?_)
    repeat
      conv => whnf
      first
        | refine ⟨_, by assumption, ?_⟩
        | refine ⟨(Nat.le_of_ble_eq_true rfl), _, by assumption, ?_⟩
        | refine ⟨by kernel_rfl, ?_⟩
        | exact rfl
        | exact ⟨Nat.le_of_ble_eq_true rfl, rfl⟩
        | refine ⟨by decide, ?_⟩
  · by_cases h2 : 200 < y.length
    · conv => whnf
      first
        | refine caseb (fun _ => ?_) (fun h => absurd (of_decide_eq_false h) (by omega))
        | refine caseb (fun h => absurd (of_decide_eq_true h) (by omega)) (fun _ => ?_)
        | refine caseb (fun _ => ?_) (fun h => absurd (beq_eq_false_iff_ne.1 h) (by omega))
        | refine caseb (fun h => absurd (eq_of_beq h) (by omega)) (fun _ => ?_)
      conv => whnf
      first
        | refine caseb (fun _ => ?_) (fun h => absurd (of_decide_eq_false h) (by omega))
        | refine caseb (fun h => absurd (of_decide_eq_true h) (by omega)) (fun _ => ?_)
        | refine caseb (fun _ => ?_) (fun h => absurd (beq_eq_false_iff_ne.1 h) (by omega))
        | refine caseb (fun h => absurd (eq_of_beq h) (by omega)) (fun _ => ?_)
      repeat
        conv => whnf
        first
          | refine ⟨_, by assumption, ?_⟩
          | refine ⟨(Nat.le_of_ble_eq_true rfl), _, by assumption, ?_⟩
          | refine ⟨by kernel_rfl, ?_⟩
          | exact rfl
          | exact ⟨Nat.le_of_ble_eq_true rfl, rfl⟩
          | refine ⟨by decide, ?_⟩
    · conv => whnf
      first
        | refine caseb (fun _ => ?_) (fun h => absurd (of_decide_eq_false h) (by omega))
        | refine caseb (fun h => absurd (of_decide_eq_true h) (by omega)) (fun _ => ?_)
        | refine caseb (fun _ => ?_) (fun h => absurd (beq_eq_false_iff_ne.1 h) (by omega))
        | refine caseb (fun h => absurd (eq_of_beq h) (by omega)) (fun _ => ?_)
      conv => whnf
      first
        | refine caseb (fun _ => ?_) (fun h => absurd (of_decide_eq_false h) (by omega))
        | refine caseb (fun h => absurd (of_decide_eq_true h) (by omega)) (fun _ => ?_)
        | refine caseb (fun _ => ?_) (fun h => absurd (beq_eq_false_iff_ne.1 h) (by omega))
        | refine caseb (fun h => absurd (eq_of_beq h) (by omega)) (fun _ => ?_)
      conv => whnf
      first
        | refine caseb (fun _ => ?_) (fun h => absurd (of_decide_eq_false h) (by omega))
        | refine caseb (fun h => absurd (of_decide_eq_true h) (by omega)) (fun _ => ?_)
        | refine caseb (fun _ => ?_) (fun h => absurd (beq_eq_false_iff_ne.1 h) (by omega))
        | refine caseb (fun h => absurd (eq_of_beq h) (by omega)) (fun _ => ?_)
      repeat
        conv => whnf
        first
          | refine ⟨_, by assumption, ?_⟩
          | refine ⟨(Nat.le_of_ble_eq_true rfl), _, by assumption, ?_⟩
          | refine ⟨by kernel_rfl, ?_⟩
          | exact rfl
          | exact ⟨Nat.le_of_ble_eq_true rfl, rfl⟩
          | refine ⟨by decide, ?_⟩
theorem sz_row {l : List Int} (h : ∀ v ∈ l, -128 ≤ v ∧ v < 128) : ∀ o ∈ l.map intX, okX o ∧ Sz (valX o) 1000 := fun o ho => by
  obtain ⟨n, hn, rfl⟩ := List.mem_map.1 ho
  have := h n hn
  exact ⟨(Rat.den_intCast n).symm, (Sz_int (k := 4) (by decide) (limbs_len_le (by omega))).mono (by decide)⟩
set_option maxRecDepth 20000 in
theorem good (hx : ∀ v ∈ x, -128 ≤ v ∧ v < 128) (hy : ∀ v ∈ y, -128 ≤ v ∧ v < 128) (hz : ∀ v ∈ z, -128 ≤ v ∧ v < 128) (x2 : x.length ≤ 200) (y2 : y.length ≤ 200) (z2 : z.length ≤ 200) :
    AC Try.prog 4 [.sl 1 (irows .i8 x) false, .sl 1 (irows .i8 y) false, .sl 1 (irows .i8 z) false] (.pure (.val (.bool true))) := by
  have hAw := awake10_ok
  have qx := irows_len .i8 x
  have rx := irows_len .i64 x
  have Ix := AInts_ok x (by omega) (fun v hv => by have := hx v hv; exact ⟨by omega, by omega⟩)
  have mx : (x.map intX).length = x.length := List.length_map _
  have fx : irows .i64 x = List.take x.length (List.drop 0 (irows .i64 x)) := by rw [List.drop_zero, List.take_of_length_le (by omega)]
  have qy := irows_len .i8 y
  have ry := irows_len .i64 y
  have Iy := AInts_ok y (by omega) (fun v hv => by have := hy v hv; exact ⟨by omega, by omega⟩)
  have my : (y.map intX).length = y.length := List.length_map _
  have fy : irows .i64 y = List.take y.length (List.drop 0 (irows .i64 y)) := by rw [List.drop_zero, List.take_of_length_le (by omega)]
  have qz := irows_len .i8 z
  have rz := irows_len .i64 z
  have Iz := AInts_ok z (by omega) (fun v hv => by have := hz v hv; exact ⟨by omega, by omega⟩)
  have mz : (z.map intX).length = z.length := List.length_map _
  have fz : irows .i64 z = List.take z.length (List.drop 0 (irows .i64 z)) := by rw [List.drop_zero, List.take_of_length_le (by omega)]
  have C1 := Cat_lists (x.map intX) (y.map intX) (-1) (.inl rfl) (by omega) (by omega)
  have C2 := Cat_lists (x.map intX ++ y.map intX) (z.map intX) (-1) (.inl rfl) (by rw [List.length_append]; omega) (by omega)
  have C3 := Cat_lists (y.map intX) (z.map intX) 0 (.inr rfl) (by omega) (by omega)
  have C4 := Cat_lists (x.map intX) (y.map intX ++ z.map intX) 0 (.inr rfl) (by omega) (by rw [List.length_append]; omega)
  rw [← List.append_assoc] at C4
  have hall : ∀ o ∈ x.map intX ++ y.map intX ++ z.map intX, okX o ∧ Sz (valX o) 1000 := fun o ho => by
    rcases List.mem_append.1 ho with h | h
    · rcases List.mem_append.1 h with h | h
      · exact sz_row hx o h
      · exact sz_row hy o h
    · exact sz_row hz o h
  have hS := Same_ok [((x.map intX ++ y.map intX ++ z.map intX).length : Int)] (x.map intX ++ y.map intX ++ z.map intX) (x.map intX ++ y.map intX ++ z.map intX) (by show 1 ≤ 1000; decide) rfl (by rw [List.length_append, List.length_append]; omega) (fun o ho => (hall o ho).1) (fun o ho => (hall o ho).1) (fun o ho => (hall o ho).2)
  have T1 := Take_pre (x.map intX ++ y.map intX) x.length (by rw [List.length_append]; omega) (by rw [List.length_append]; omega)
  have T2 := Drop_post (x.map intX ++ y.map intX) x.length (by rw [List.length_append]; omega) (by rw [List.length_append]; omega)
  have e1 : (x.map intX ++ y.map intX).take x.length = x.map intX := List.take_left' mx
  have e2 : (x.map intX ++ y.map intX).drop x.length = y.map intX := List.drop_left' mx
  have e3 : (x.map intX ++ y.map intX).length - x.length = y.length := by rw [List.length_append]; omega
  rw [e1] at T1
  rw [e2, e3] at T2
  have Ik := AInt_ok (x.length : Int) ⟨by omega, by omega⟩
  have Ik : AC Try.prog 8 [.val (.int .i64 (x.length : Int))] (.pure (AA [] false [] [intX (x.length : Int)] true)) := Ik
  have hLb := ALen_ok [((x.map intX ++ y.map intX ++ z.map intX).length : Int)] false [] (x.map intX ++ y.map intX ++ z.map intX) true (by decide) (by rw [List.length_append, List.length_append]; omega)
  have R1 := RInts_ok x (by omega) (fun v hv => by have := hx v hv; exact ⟨by omega, by omega⟩)
  have R2 := RInts_ok y (by omega) (fun v hv => by have := hy v hv; exact ⟨by omega, by omega⟩)
  have H1 := shows10_ok [(x.length : Int)] false [] (x.map intX) (by show 1 ≤ 1000; decide) (by decide) (by omega) (fun o ho => ⟨(sz_row hx o ho).1, (sz_row hx o ho).2.mono (by decide)⟩)
  have H2 := shows10_ok [(y.length : Int)] false [] (y.map intX) (by show 1 ≤ 1000; decide) (by decide) (by omega) (fun o ho => ⟨(sz_row hy o ho).1, (sz_row hy o ho).2.mono (by decide)⟩)
  have vx : (x.map intX).map valX = x.map fun n : Int => (n : Rat) := by rw [List.map_map]; rfl
  have vy : (y.map intX).map valX = y.map fun n : Int => (n : Rat) := by rw [List.map_map]; rfl
  rw [vx] at H1
  rw [vy] at H2
  have la : (x.map intX ++ y.map intX).length = x.length + y.length := by rw [List.length_append, mx, my]
  have lb : (x.map intX ++ y.map intX ++ z.map intX).length = x.length + y.length + z.length := by rw [List.length_append, la, mz]
  have lc : (y.map intX ++ z.map intX).length = y.length + z.length := by rw [List.length_append, my, mz]
  rw [mx, my] at C1
  rw [mz] at C2
  rw [my, mz] at C3
  rw [mx] at C4
  have lb0 : (([] : List Int).length + (x.map intX ++ y.map intX ++ z.map intX).length : Nat) = x.length + y.length + z.length := by rw [lb]; exact Nat.zero_add _
  rw [lb0] at hLb
  have w1 : IntKind.i64.wrap (((irows .i64 x).length : Int) + ((irows .i64 y).length : Int)) = ((x.length + y.length : Nat) : Int) := by rw [IntWalk.i64_in _ (by omega)]; omega
  have w2 : IntKind.i64.wrap (IntKind.i64.wrap (((irows .i64 x).length : Int) + ((irows .i64 y).length : Int)) + ((irows .i64 z).length : Int)) = ((x.length + y.length + z.length : Nat) : Int) := by rw [w1, IntWalk.i64_in _ (by omega)]; omega
  rw [← rx] at Ik
  have ex : intX ((irows .i64 x).length : Int) = intX (x.length : Int) := by rw [rx]
  rw [ex] at Ik
  generalize hXY : x.map intX ++ y.map intX = XY at *
  generalize hXYZ : XY ++ z.map intX = XYZ at *
  generalize hYZ : y.map intX ++ z.map intX = YZ at *
  refine AC.of_sw TTok Try.func4 rfl (enter_of Try.func4 (by kernel_rfl) (by kernel_rfl)) (nd x y z) (.val _) (Nat.le_of_ble_eq_true rfl) ?_
  refine SW.seqA TTok ?_
  conv => whnf
  refine SW.seqA TTok ?_
  conv => whnf
  first
    | refine caseb (fun _ => ?_) (fun h => absurd (of_decide_eq_false h) (by omega))
    | refine caseb (fun h => absurd (of_decide_eq_true h) (by omega)) (fun _ => ?_)
    | refine caseb (fun _ => ?_) (fun h => absurd (beq_eq_false_iff_ne.1 h) (by omega))
    | refine caseb (fun h => absurd (eq_of_beq h) (by omega)) (fun _ => ?_)
  conv => whnf
  first
    | refine caseb (fun _ => ?_) (fun h => absurd (of_decide_eq_false h) (by omega))
    | refine caseb (fun h => absurd (of_decide_eq_true h) (by omega)) (fun _ => ?_)
    | refine caseb (fun _ => ?_) (fun h => absurd (beq_eq_false_iff_ne.1 h) (by omega))
    | refine caseb (fun h => absurd (eq_of_beq h) (by omega)) (fun _ => ?_)
  conv => whnf
  first
    | refine caseb (fun _ => ?_) (fun h => absurd (of_decide_eq_false h) (by omega))
    | refine caseb (fun h => absurd (of_decide_eq_true h) (by omega)) (fun _ => ?_)
    | refine caseb (fun _ => ?_) (fun h => absurd (beq_eq_false_iff_ne.1 h) (by omega))
    | refine caseb (fun h => absurd (eq_of_beq h) (by omega)) (fun _ => ?_)
  conv => whnf
  refine SW.seqA TTok ?_
  conv => whnf
  refine SW.nil 7 1 rfl ?_
  refine SW.nil 8 1 rfl ?_
  refine SW.nil 9 1 rfl ?_
  refine SW.cutM TTok (fun _ : Unit => [(0, .sl 1 (irows .i8 x) false), (1, .sl 1 (irows .i8 y) false), (2, .sl 1 (irows .i8 z) false), (7, .own 136 0 x.length), (8, .own 144 0 0), (9, .own 152 0 0)]) (fun _ => [(136, .cells 1 (irows .i64 x)), (144, .cells 1 (irows .i64 [])), (152, .cells 1 (irows .i64 []))]) 300 175 rfl (fun _ => True) ?_ (fun _ _ => ?_)
  · conv => whnf
    refine SW.loopM TTok (fun i : Nat => [(0, .sl 1 (irows .i8 x) false), (1, .sl 1 (irows .i8 y) false), (2, .sl 1 (irows .i8 z) false), (7, .own 136 0 i), (8, .own 144 0 0), (9, .own 152 0 0), (10, .val (.int .i64 (i : Int)))]) (fun i => [(136, .cells 1 (irows .i64 (x.take i))), (144, .cells 1 (irows .i64 [])), (152, .cells 1 (irows .i64 []))]) 168 175 rfl (fun i => x.length - i) (fun i => i ≤ x.length) 0 [] (Nat.zero_le _)
      ⟨⟨rfl, rfl⟩, ⟨rfl, rfl⟩, ⟨rfl, rfl⟩, ⟨rfl, rfl⟩, ⟨rfl, rfl⟩, ⟨rfl, rfl⟩, ⟨rfl, rfl⟩, trivial⟩ ⟨⟨rfl, .inl ⟨rfl, irows_noid _ _⟩⟩, ⟨rfl, .inl ⟨rfl, irows_noid _ _⟩⟩, ⟨rfl, .inl ⟨rfl, irows_noid _ _⟩⟩, trivial⟩ rfl ?_
    intro i hJ
    have hi : i ≤ x.length := hJ
    clear hJ
    have lr1 : (irows .i64 (x.take i)).length = i := by rw [irows_len, List.length_take]; omega
    by_cases hlt : i < x.length
    · have eI : IntKind.i64.wrap ((i : Int) + 1) = ((i + 1 : Nat) : Int) := by rw [IntWalk.i64_in _ (by omega)]; omega
      have hg := irows_get .i8 x (List.getElem?_eq_getElem hlt)
      have hb := hx _ (List.getElem_mem hlt)
      have hs1 : irows .i64 (x.take i) ++ [[.val (.int .i64 x[i])]] = irows .i64 (x.take (i + 1)) := by
        rw [take_snoc hlt, ← irows_append]; rfl
      obtain ⟨u, hu⟩ : ∃ u, u = x[i] := ⟨_, rfl⟩
      rw [← hu] at hg hb hs1
      have eX : IntKind.i64.wrap u = u := by rw [IntWalk.i64_in _ (by omega)]
      conv => whnf
      first
        | refine caseb (fun _ => ?_) (fun h => absurd (of_decide_eq_false h) (by omega))
        | refine caseb (fun h => absurd (of_decide_eq_true h) (by omega)) (fun _ => ?_)
        | refine caseb (fun _ => ?_) (fun h => absurd (beq_eq_false_iff_ne.1 h) (by omega))
        | refine caseb (fun h => absurd (eq_of_beq h) (by omega)) (fun _ => ?_)
      conv => whnf
      refine ⟨_, ⟨by omega, by rw [Int.toNat_natCast]; exact hg⟩, ?_⟩
      conv => whnf
      refine ⟨⟨by show 0 + i ≤ _; omega, by show (i + 1) * 8 ≤ 140737488355328; omega, Nat.le_refl _⟩, ?_⟩
      conv => whnf
      refine ⟨i + 1, [(136, 256)], (by show x.length - (i + 1) < x.length - i; omega), hlt, ⟨⟨rfl, rfl⟩, ⟨rfl, rfl⟩, ⟨rfl, rfl⟩, ⟨rfl, rfl⟩, ⟨rfl, rfl⟩, ⟨rfl, rfl⟩, ⟨valI eI, rfl⟩, trivial⟩, ⟨⟨rfl, .inl ⟨celE ?_, irows_noid _ _⟩⟩, ⟨rfl, .inl ⟨rfl, irows_noid _ _⟩⟩, ⟨rfl, .inl ⟨rfl, irows_noid _ _⟩⟩, trivial⟩, rfl⟩
      rw [← hs1]
      show List.take i (List.drop 0 (irows .i64 (x.take i))) ++ [[.val (.int .i64 (IntKind.i64.wrap u))]] = _
      rw [List.drop_zero, List.take_of_length_le (by omega), eX]
    · have hie : i = x.length := by omega
      have et : x.take i = x := List.take_of_length_le (by omega)
      rw [et, hie]
      conv => whnf
      first
        | refine caseb (fun _ => ?_) (fun h => absurd (of_decide_eq_false h) (by omega))
        | refine caseb (fun h => absurd (of_decide_eq_true h) (by omega)) (fun _ => ?_)
        | refine caseb (fun _ => ?_) (fun h => absurd (beq_eq_false_iff_ne.1 h) (by omega))
        | refine caseb (fun h => absurd (eq_of_beq h) (by omega)) (fun _ => ?_)
      conv => whnf
      exact ⟨(), [], trivial, ⟨⟨rfl, rfl⟩, ⟨rfl, rfl⟩, ⟨rfl, rfl⟩, ⟨rfl, rfl⟩, ⟨rfl, rfl⟩, ⟨rfl, rfl⟩, trivial⟩, ⟨⟨rfl, .inl ⟨rfl, irows_noid _ _⟩⟩, ⟨rfl, .inl ⟨rfl, irows_noid _ _⟩⟩, ⟨rfl, .inl ⟨rfl, irows_noid _ _⟩⟩, trivial⟩, rfl⟩
  refine SW.cutM TTok (fun _ : Unit => [(0, .sl 1 (irows .i8 x) false), (1, .sl 1 (irows .i8 y) false), (2, .sl 1 (irows .i8 z) false), (7, .own 136 0 x.length), (8, .own 144 0 y.length), (9, .own 152 0 0)]) (fun _ => [(136, .cells 1 (irows .i64 x)), (144, .cells 1 (irows .i64 y)), (152, .cells 1 (irows .i64 []))]) 500 175 rfl (fun _ => True) ?_ (fun _ _ => ?_)
  · conv => whnf
    refine SW.loopM TTok (fun i : Nat => [(0, .sl 1 (irows .i8 x) false), (1, .sl 1 (irows .i8 y) false), (2, .sl 1 (irows .i8 z) false), (7, .own 136 0 x.length), (8, .own 144 0 i), (9, .own 152 0 0), (11, .val (.int .i64 (i : Int)))]) (fun i => [(136, .cells 1 (irows .i64 x)), (144, .cells 1 (irows .i64 (y.take i))), (152, .cells 1 (irows .i64 []))]) 308 175 rfl (fun i => y.length - i) (fun i => i ≤ y.length) 0 [] (Nat.zero_le _)
      ⟨⟨rfl, rfl⟩, ⟨rfl, rfl⟩, ⟨rfl, rfl⟩, ⟨rfl, rfl⟩, ⟨rfl, rfl⟩, ⟨rfl, rfl⟩, ⟨rfl, rfl⟩, trivial⟩ ⟨⟨rfl, .inl ⟨rfl, irows_noid _ _⟩⟩, ⟨rfl, .inl ⟨rfl, irows_noid _ _⟩⟩, ⟨rfl, .inl ⟨rfl, irows_noid _ _⟩⟩, trivial⟩ rfl ?_
    intro i hJ
    have hi : i ≤ y.length := hJ
    clear hJ
    have lr1 : (irows .i64 (y.take i)).length = i := by rw [irows_len, List.length_take]; omega
    by_cases hlt : i < y.length
    · have eI : IntKind.i64.wrap ((i : Int) + 1) = ((i + 1 : Nat) : Int) := by rw [IntWalk.i64_in _ (by omega)]; omega
      have hg := irows_get .i8 y (List.getElem?_eq_getElem hlt)
      have hb := hy _ (List.getElem_mem hlt)
      have hs1 : irows .i64 (y.take i) ++ [[.val (.int .i64 y[i])]] = irows .i64 (y.take (i + 1)) := by
        rw [take_snoc hlt, ← irows_append]; rfl
      obtain ⟨u, hu⟩ : ∃ u, u = y[i] := ⟨_, rfl⟩
      rw [← hu] at hg hb hs1
      have eX : IntKind.i64.wrap u = u := by rw [IntWalk.i64_in _ (by omega)]
      conv => whnf
      first
        | refine caseb (fun _ => ?_) (fun h => absurd (of_decide_eq_false h) (by omega))
        | refine caseb (fun h => absurd (of_decide_eq_true h) (by omega)) (fun _ => ?_)
        | refine caseb (fun _ => ?_) (fun h => absurd (beq_eq_false_iff_ne.1 h) (by omega))
        | refine caseb (fun h => absurd (eq_of_beq h) (by omega)) (fun _ => ?_)
      conv => whnf
      refine ⟨_, ⟨by omega, by rw [Int.toNat_natCast]; exact hg⟩, ?_⟩
      conv => whnf
      refine ⟨⟨by show 0 + i ≤ _; omega, by show (i + 1) * 8 ≤ 140737488355328; omega, Nat.le_refl _⟩, ?_⟩
      conv => whnf
      refine ⟨i + 1, [(144, 396)], (by show y.length - (i + 1) < y.length - i; omega), hlt, ⟨⟨rfl, rfl⟩, ⟨rfl, rfl⟩, ⟨rfl, rfl⟩, ⟨rfl, rfl⟩, ⟨rfl, rfl⟩, ⟨rfl, rfl⟩, ⟨valI eI, rfl⟩, trivial⟩, ⟨⟨rfl, .inl ⟨rfl, irows_noid _ _⟩⟩, ⟨rfl, .inl ⟨celE ?_, irows_noid _ _⟩⟩, ⟨rfl, .inl ⟨rfl, irows_noid _ _⟩⟩, trivial⟩, rfl⟩
      rw [← hs1]
      show List.take i (List.drop 0 (irows .i64 (y.take i))) ++ [[.val (.int .i64 (IntKind.i64.wrap u))]] = _
      rw [List.drop_zero, List.take_of_length_le (by omega), eX]
    · have hie : i = y.length := by omega
      have et : y.take i = y := List.take_of_length_le (by omega)
      rw [et, hie]
      conv => whnf
      first
        | refine caseb (fun _ => ?_) (fun h => absurd (of_decide_eq_false h) (by omega))
        | refine caseb (fun h => absurd (of_decide_eq_true h) (by omega)) (fun _ => ?_)
        | refine caseb (fun _ => ?_) (fun h => absurd (beq_eq_false_iff_ne.1 h) (by omega))
        | refine caseb (fun h => absurd (eq_of_beq h) (by omega)) (fun _ => ?_)
      conv => whnf
      exact ⟨(), [], trivial, ⟨⟨rfl, rfl⟩, ⟨rfl, rfl⟩, ⟨rfl, rfl⟩, ⟨rfl, rfl⟩, ⟨rfl, rfl⟩, ⟨rfl, rfl⟩, trivial⟩, ⟨⟨rfl, .inl ⟨rfl, irows_noid _ _⟩⟩, ⟨rfl, .inl ⟨rfl, irows_noid _ _⟩⟩, ⟨rfl, .inl ⟨rfl, irows_noid _ _⟩⟩, trivial⟩, rfl⟩
  refine SW.cutM TTok (fun _ : Unit => [(0, .sl 1 (irows .i8 x) false), (1, .sl 1 (irows .i8 y) false), (2, .sl 1 (irows .i8 z) false), (7, .own 136 0 x.length), (8, .own 144 0 y.length), (9, .own 152 0 z.length)]) (fun _ => [(136, .cells 1 (irows .i64 x)), (144, .cells 1 (irows .i64 y)), (152, .cells 1 (irows .i64 z))]) 700 175 rfl (fun _ => True) ?_ (fun _ _ => ?_)
  · conv => whnf
    refine SW.loopM TTok (fun i : Nat => [(0, .sl 1 (irows .i8 x) false), (1, .sl 1 (irows .i8 y) false), (2, .sl 1 (irows .i8 z) false), (7, .own 136 0 x.length), (8, .own 144 0 y.length), (9, .own 152 0 i), (12, .val (.int .i64 (i : Int)))]) (fun i => [(136, .cells 1 (irows .i64 x)), (144, .cells 1 (irows .i64 y)), (152, .cells 1 (irows .i64 (z.take i)))]) 508 175 rfl (fun i => z.length - i) (fun i => i ≤ z.length) 0 [] (Nat.zero_le _)
      ⟨⟨rfl, rfl⟩, ⟨rfl, rfl⟩, ⟨rfl, rfl⟩, ⟨rfl, rfl⟩, ⟨rfl, rfl⟩, ⟨rfl, rfl⟩, ⟨rfl, rfl⟩, trivial⟩ ⟨⟨rfl, .inl ⟨rfl, irows_noid _ _⟩⟩, ⟨rfl, .inl ⟨rfl, irows_noid _ _⟩⟩, ⟨rfl, .inl ⟨rfl, irows_noid _ _⟩⟩, trivial⟩ rfl ?_
    intro i hJ
    have hi : i ≤ z.length := hJ
    clear hJ
    have lr1 : (irows .i64 (z.take i)).length = i := by rw [irows_len, List.length_take]; omega
    by_cases hlt : i < z.length
    · have eI : IntKind.i64.wrap ((i : Int) + 1) = ((i + 1 : Nat) : Int) := by rw [IntWalk.i64_in _ (by omega)]; omega
      have hg := irows_get .i8 z (List.getElem?_eq_getElem hlt)
      have hb := hz _ (List.getElem_mem hlt)
      have hs1 : irows .i64 (z.take i) ++ [[.val (.int .i64 z[i])]] = irows .i64 (z.take (i + 1)) := by
        rw [take_snoc hlt, ← irows_append]; rfl
      obtain ⟨u, hu⟩ : ∃ u, u = z[i] := ⟨_, rfl⟩
      rw [← hu] at hg hb hs1
      have eX : IntKind.i64.wrap u = u := by rw [IntWalk.i64_in _ (by omega)]
      conv => whnf
      first
        | refine caseb (fun _ => ?_) (fun h => absurd (of_decide_eq_false h) (by omega))
        | refine caseb (fun h => absurd (of_decide_eq_true h) (by omega)) (fun _ => ?_)
        | refine caseb (fun _ => ?_) (fun h => absurd (beq_eq_false_iff_ne.1 h) (by omega))
        | refine caseb (fun h => absurd (eq_of_beq h) (by omega)) (fun _ => ?_)
      conv => whnf
      refine ⟨_, ⟨by omega, by rw [Int.toNat_natCast]; exact hg⟩, ?_⟩
      conv => whnf
      refine ⟨⟨by show 0 + i ≤ _; omega, by show (i + 1) * 8 ≤ 140737488355328; omega, Nat.le_refl _⟩, ?_⟩
      conv => whnf
      refine ⟨i + 1, [(152, 596)], (by show z.length - (i + 1) < z.length - i; omega), hlt, ⟨⟨rfl, rfl⟩, ⟨rfl, rfl⟩, ⟨rfl, rfl⟩, ⟨rfl, rfl⟩, ⟨rfl, rfl⟩, ⟨rfl, rfl⟩, ⟨valI eI, rfl⟩, trivial⟩, ⟨⟨rfl, .inl ⟨rfl, irows_noid _ _⟩⟩, ⟨rfl, .inl ⟨rfl, irows_noid _ _⟩⟩, ⟨rfl, .inl ⟨celE ?_, irows_noid _ _⟩⟩, trivial⟩, rfl⟩
      rw [← hs1]
      show List.take i (List.drop 0 (irows .i64 (z.take i))) ++ [[.val (.int .i64 (IntKind.i64.wrap u))]] = _
      rw [List.drop_zero, List.take_of_length_le (by omega), eX]
    · have hie : i = z.length := by omega
      have et : z.take i = z := List.take_of_length_le (by omega)
      rw [et, hie]
      conv => whnf
      first
        | refine caseb (fun _ => ?_) (fun h => absurd (of_decide_eq_false h) (by omega))
        | refine caseb (fun h => absurd (of_decide_eq_true h) (by omega)) (fun _ => ?_)
        | refine caseb (fun _ => ?_) (fun h => absurd (beq_eq_false_iff_ne.1 h) (by omega))
        | refine caseb (fun h => absurd (eq_of_beq h) (by omega)) (fun _ => ?_)
      conv => whnf
      exact ⟨(), [], trivial, ⟨⟨rfl, rfl⟩, ⟨rfl, rfl⟩, ⟨rfl, rfl⟩, ⟨rfl, rfl⟩, ⟨rfl, rfl⟩, ⟨rfl, rfl⟩, trivial⟩, ⟨⟨rfl, .inl ⟨rfl, irows_noid _ _⟩⟩, ⟨rfl, .inl ⟨rfl, irows_noid _ _⟩⟩, ⟨rfl, .inl ⟨rfl, irows_noid _ _⟩⟩, trivial⟩, rfl⟩
  refine SW.weak (Wk.frz 7 136 0 x.length 1 rfl rfl (by decide) (by show 0 + x.length ≤ (irows .i64 x).length; omega) (by show NoId (.sl 1 (List.take x.length (List.drop 0 (irows .i64 x))) false); rw [← fx]; exact noid_sl _ _ _)) rfl ?_
  refine SW.weak (Wk.frz 8 144 0 y.length 1 rfl rfl (by decide) (by show 0 + y.length ≤ (irows .i64 y).length; omega) (by show NoId (.sl 1 (List.take y.length (List.drop 0 (irows .i64 y))) false); rw [← fy]; exact noid_sl _ _ _)) rfl ?_
  refine SW.weak (Wk.frz 9 152 0 z.length 1 rfl rfl (by decide) (by show 0 + z.length ≤ (irows .i64 z).length; omega) (by show NoId (.sl 1 (List.take z.length (List.drop 0 (irows .i64 z))) false); rw [← fz]; exact noid_sl _ _ _)) rfl ?_
  refine SW.weak (Wk.of (σf []) [(7, .sl 1 (irows .i64 x) false), (8, .sl 1 (irows .i64 y) false), (9, .sl 1 (irows .i64 z) false)] [] 1000 175 rfl ⟨⟨slE fx.symm, rfl⟩, ⟨slE fy.symm, rfl⟩, ⟨slE fz.symm, rfl⟩, trivial⟩ trivial rfl) rfl ?_
  refine axp_sound TTok _ _ _ ?_
  unfold AA PA at *
  conv => whnf
  refine ⟨_, Ix, ?_⟩
  conv => whnf
  refine ⟨_, Iy, ?_⟩
  conv => whnf
  refine ⟨_, C1, ?_⟩
  conv => whnf
  conv => whnf
  refine ⟨_, Iz, ?_⟩
  conv => whnf
  refine ⟨_, C2, ?_⟩
  conv => whnf
  refine ⟨by kernel_rfl, ?_⟩
  conv => whnf
  conv => whnf
  refine ⟨_, Iy, ?_⟩
  conv => whnf
  refine ⟨_, Iz, ?_⟩
  conv => whnf
  refine ⟨_, C3, ?_⟩
  conv => whnf
  conv => whnf
  refine ⟨_, Ix, ?_⟩
  conv => whnf
  refine ⟨_, C4, ?_⟩
  conv => whnf
  refine ⟨by kernel_rfl, ?_⟩
  conv => whnf
  conv => whnf
  refine ⟨_, Ik, ?_⟩
  conv => whnf
  refine ⟨_, T1, ?_⟩
  conv => whnf
  refine ⟨by kernel_rfl, ?_⟩
  conv => whnf
  conv => whnf
  refine ⟨_, Ik, ?_⟩
  conv => whnf
  refine ⟨_, T2, ?_⟩
  conv => whnf
  refine ⟨by kernel_rfl, ?_⟩
  conv => whnf
  conv => whnf
  refine ⟨_, hS, ?_⟩
  conv => whnf
  refine ⟨_, hLb, ?_⟩
  conv => whnf
  first
    | refine caseb (fun h => absurd (bne_iff_ne.1 h) (by omega)) (fun _ => ?_)
    | refine caseb (fun _ => ?_) (fun h => absurd (bne_eq_false_iff_eq.1 h) (by omega))
  conv => whnf
  refine ⟨_, R1, ?_⟩
  conv => whnf
  refine ⟨_, H1, ?_⟩
  conv => whnf
  refine ⟨_, R2, ?_⟩
  conv => whnf
  refine ⟨_, H2, ?_⟩
  conv => whnf
  refine ⟨_, hAw, ?_⟩
  conv => whnf
  refine ⟨by kernel_rfl, ?_⟩
  repeat
    conv => whnf
    first
      | refine ⟨_, by assumption, ?_⟩
      | refine ⟨(Nat.le_of_ble_eq_true rfl), _, by assumption, ?_⟩
      | refine ⟨by kernel_rfl, ?_⟩
      | exact rfl
      | exact ⟨Nat.le_of_ble_eq_true rfl, rfl⟩
      | refine ⟨by decide, ?_⟩
end
theorem holds (x y z : List Int) (_zx : x.length < 9223372036854775808) (hx : ∀ n ∈ x, -128 ≤ n ∧ n < 128) (_zy : y.length < 9223372036854775808) (hy : ∀ n ∈ y, -128 ≤ n ∧ n < 128) (_zz : z.length < 9223372036854775808) (hz : ∀ n ∈ z, -128 ≤ n ∧ n < 128) :
    AC Try.prog 4 [.sl 1 (irows .i8 x) false, .sl 1 (irows .i8 y) false, .sl 1 (irows .i8 z) false] (.pure (.val (.bool true))) := by
  by_cases h : 200 < x.length ∨ 200 < y.length ∨ 200 < z.length
  · exact bad x y z h
  · exact good x y z hx hy hz (by omega) (by omega) (by omega)
end
end Go.Proofs.Ytcdeiegpeiodjaa.joinBack
