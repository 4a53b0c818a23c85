-- Written out of the translation by a program of this session (the kit's print, with contracts of this session's beside it).
import Derived.Test.YtenbcmlacmepgaaDoorPLexTokensx0
import Derived.Test.YtenbcmlacmepgaaDoorPLexTokensx2
namespace Go.Proofs.YtenbcmlacmepgaaDoor.PLexTokens
open Go.RowKit Go.Proofs.YtenbcmlacmepgaaDoorW.PrintWords Go.Proofs.YtenbcmlacmepgaaDoorW.PrintLast Go.Proofs.YtenbcmlacmepgaaDoorW.PrintMore
attribute [local go_sem] max2_int min2_int max_two min_two max_three min_three max_four min_four   -- for this text's walks alone
set_option linter.unusedVariables false
set_option linter.unusedSimpArgs false

/-! ### windlassref5_Tokens: function 11 -/
mutual
def windlassref5_Tokens.l0 : Nat → ByteArray → List (S28) → Int → Option ((List (S28)) × Int × Int)
  | 0, _, _, _ => none
  | k + 1, x0, x5, x6 => if x6 < (x0.size : Int) then (if 0 ≤ x6 then (if (bt x0 x6) = 32 then (windlassref5_Tokens.j1 k x0 x5 x6 (bt x0 x6) x6 true) else (if (bt x0 x6) = 9 then (windlassref5_Tokens.j1 k x0 x5 x6 (bt x0 x6) x6 true) else (if (bt x0 x6) = 10 then (windlassref5_Tokens.j1 k x0 x5 x6 (bt x0 x6) x6 true) else (windlassref5_Tokens.j1 k x0 x5 x6 (bt x0 x6) x6 ((bt x0 x6) == 13))))) else (none)) else (if x5.length < 4398046511104 then (some ((x5 ++ [(⟨0, (⟨#[]⟩ : ByteArray), (x0.size : Int)⟩ : S28)]), 0, 0)) else (none))
def windlassref5_Tokens.j1 : Nat → ByteArray → List (S28) → Int → Int → Int → Bool → Option ((List (S28)) × Int × Int)
  | 0, _, _, _, _, _, _ => none
  | k + 1, x0, x5, x6, x7, x8, x42 => if x42 = true then (windlassref5_Tokens.l0 k x0 x5 (wrap64 (x6 + 1))) else (if x7 = 35 then (windlassref5_Tokens.l1 k x0 x5 x6) else ((windlassref5_letter.f x7).bind fun t117 => (if t117 = true then (windlassref5_Tokens.l2 k x0 x5 x6 x8) else ((windlassref5_digit.f x7).bind fun t134 => (if t134 = true then (windlassref5_Tokens.l3 k x0 x5 x6 x8) else (if x7 = 34 then ((windlassref5_text.f k x0 x6).bind fun bt142 => (if bt142.2.2 = true then (if x5.length < 4398046511104 then (windlassref5_Tokens.l0 k x0 (x5 ++ [(⟨4, bt142.1, x8⟩ : S28)]) bt142.2.1) else (none)) else (some (([] : List (S28)), x6, 52)))) else ((windlassref5_sign.f x0 x6).bind fun t148 => (if t148.toList = ([] : List UInt8) then (some (([] : List (S28)), x6, 51)) else (if x5.length < 4398046511104 then (windlassref5_Tokens.l0 k x0 (x5 ++ [(⟨5, t148, x8⟩ : S28)]) (wrap64 (x6 + (t148.size : Int)))) else (none))))))))))
def windlassref5_Tokens.l1 : Nat → ByteArray → List (S28) → Int → Option ((List (S28)) × Int × Int)
  | 0, _, _, _ => none
  | k + 1, x0, x5, x6 => if x6 < (x0.size : Int) then (if 0 ≤ x6 then (if (bt x0 x6) = 10 then (windlassref5_Tokens.l0 k x0 x5 x6) else (windlassref5_Tokens.l1 k x0 x5 (wrap64 (x6 + 1)))) else (none)) else (windlassref5_Tokens.l0 k x0 x5 x6)
def windlassref5_Tokens.l2 : Nat → ByteArray → List (S28) → Int → Int → Option ((List (S28)) × Int × Int)
  | 0, _, _, _, _ => none
  | k + 1, x0, x5, x6, x8 => if x6 < (x0.size : Int) then (if 0 ≤ x6 then ((windlassref5_letter.f (bt x0 x6)).bind fun t118 => (if t118 = true then (windlassref5_Tokens.l2 k x0 x5 (wrap64 (x6 + 1)) x8) else ((windlassref5_digit.f (bt x0 x6)).bind fun t119 => (if t119 = true then (windlassref5_Tokens.l2 k x0 x5 (wrap64 (x6 + 1)) x8) else (if 0 ≤ x8 then (if x8 ≤ x6 then (if x6 ≤ (x0.size : Int) then ((windlassref5_isWord.f k (x0.extract (x8 : Int).toNat (x6 : Int).toNat)).bind fun t120 => (if t120 = true then (if x5.length < 4398046511104 then (windlassref5_Tokens.l0 k x0 (x5 ++ [(⟨2, x0.extract (x8 : Int).toNat (x6 : Int).toNat, x8⟩ : S28)]) x6) else (none)) else (if x5.length < 4398046511104 then (windlassref5_Tokens.l0 k x0 (x5 ++ [(⟨1, x0.extract (x8 : Int).toNat (x6 : Int).toNat, x8⟩ : S28)]) x6) else (none)))) else (none)) else (none)) else (none)))))) else (none)) else (if 0 ≤ x8 then (if x8 ≤ x6 then (if x6 ≤ (x0.size : Int) then ((windlassref5_isWord.f k (x0.extract (x8 : Int).toNat (x6 : Int).toNat)).bind fun t127 => (if t127 = true then (if x5.length < 4398046511104 then (windlassref5_Tokens.l0 k x0 (x5 ++ [(⟨2, x0.extract (x8 : Int).toNat (x6 : Int).toNat, x8⟩ : S28)]) x6) else (none)) else (if x5.length < 4398046511104 then (windlassref5_Tokens.l0 k x0 (x5 ++ [(⟨1, x0.extract (x8 : Int).toNat (x6 : Int).toNat, x8⟩ : S28)]) x6) else (none)))) else (none)) else (none)) else (none))
def windlassref5_Tokens.j5 : Nat → ByteArray → List (S28) → Int → Int → Option ((List (S28)) × Int × Int)
  | 0, _, _, _, _ => none
  | k + 1, x0, x5, x6, x8 => windlassref5_Tokens.l4 k x0 x5 x6 x8 x8
def windlassref5_Tokens.l4 : Nat → ByteArray → List (S28) → Int → Int → Int → Option ((List (S28)) × Int × Int)
  | 0, _, _, _, _, _ => none
  | k + 1, x0, x5, x6, x8, x10 => if (wrap64 (x10 + 1)) < x6 then (if 0 ≤ x10 then (if x10 < (x0.size : Int) then (if (bt x0 x10) = 48 then (windlassref5_Tokens.l4 k x0 x5 x6 x8 (wrap64 (x10 + 1))) else (if x10 ≤ x6 then (if x6 ≤ (x0.size : Int) then (if x5.length < 4398046511104 then (windlassref5_Tokens.l0 k x0 (x5 ++ [(⟨3, x0.extract (x10 : Int).toNat (x6 : Int).toNat, x8⟩ : S28)]) x6) else (none)) else (none)) else (none))) else (none)) else (none)) else (if 0 ≤ x10 then (if x10 ≤ x6 then (if x6 ≤ (x0.size : Int) then (if x5.length < 4398046511104 then (windlassref5_Tokens.l0 k x0 (x5 ++ [(⟨3, x0.extract (x10 : Int).toNat (x6 : Int).toNat, x8⟩ : S28)]) x6) else (none)) else (none)) else (none)) else (none))
def windlassref5_Tokens.l3 : Nat → ByteArray → List (S28) → Int → Int → Option ((List (S28)) × Int × Int)
  | 0, _, _, _, _ => none
  | k + 1, x0, x5, x6, x8 => if x6 < (x0.size : Int) then (if 0 ≤ x6 then ((windlassref5_digit.f (bt x0 x6)).bind fun t135 => (if t135 = true then (windlassref5_Tokens.l3 k x0 x5 (wrap64 (x6 + 1)) x8) else (windlassref5_Tokens.j5 k x0 x5 x6 x8))) else (none)) else (windlassref5_Tokens.j5 k x0 x5 x6 x8)
end
def windlassref5_Tokens.f (k : Nat) (a0 : ByteArray) : Option ((List (S28)) × Int × Int) := if (a0.size : Int) > 4096 then (some (([] : List (S28)), 0, 50)) else (windlassref5_Tokens.l0 k a0 ([] : List (S28)) 0)
theorem windlassref5_Tokens.mono_l : ∀ k, (∀ y0 y1 y2, LeO (windlassref5_Tokens.l0 k y0 y1 y2) (windlassref5_Tokens.l0 (k + 1) y0 y1 y2)) ∧ (∀ y0 y1 y2 y3 y4 y5, LeO (windlassref5_Tokens.j1 k y0 y1 y2 y3 y4 y5) (windlassref5_Tokens.j1 (k + 1) y0 y1 y2 y3 y4 y5)) ∧ (∀ y0 y1 y2, LeO (windlassref5_Tokens.l1 k y0 y1 y2) (windlassref5_Tokens.l1 (k + 1) y0 y1 y2)) ∧ (∀ y0 y1 y2 y3, LeO (windlassref5_Tokens.l2 k y0 y1 y2 y3) (windlassref5_Tokens.l2 (k + 1) y0 y1 y2 y3)) ∧ (∀ y0 y1 y2 y3, LeO (windlassref5_Tokens.j5 k y0 y1 y2 y3) (windlassref5_Tokens.j5 (k + 1) y0 y1 y2 y3)) ∧ (∀ y0 y1 y2 y3 y4, LeO (windlassref5_Tokens.l4 k y0 y1 y2 y3 y4) (windlassref5_Tokens.l4 (k + 1) y0 y1 y2 y3 y4)) ∧ (∀ y0 y1 y2 y3, LeO (windlassref5_Tokens.l3 k y0 y1 y2 y3) (windlassref5_Tokens.l3 (k + 1) y0 y1 y2 y3))
  | 0 => ⟨fun _ _ _ r h => by simp [windlassref5_Tokens.l0] at h, fun _ _ _ _ _ _ r h => by simp [windlassref5_Tokens.j1] at h, fun _ _ _ r h => by simp [windlassref5_Tokens.l1] at h, fun _ _ _ _ r h => by simp [windlassref5_Tokens.l2] at h, fun _ _ _ _ r h => by simp [windlassref5_Tokens.j5] at h, fun _ _ _ _ _ r h => by simp [windlassref5_Tokens.l4] at h, fun _ _ _ _ r h => by simp [windlassref5_Tokens.l3] at h⟩
  | k + 1 => by
    obtain ⟨ih0, ih1, ih2, ih3, ih4, ih5, ih6⟩ := windlassref5_Tokens.mono_l k
    refine ⟨?_, ?_, ?_, ?_, ?_, ?_, ?_⟩
    · intro y0 y1 y2
      unfold windlassref5_Tokens.l0
      repeat' first
      | (with_reducible exact ih0 _ _ _)
      | (with_reducible exact ih1 _ _ _ _ _ _)
      | (with_reducible exact ih2 _ _ _)
      | (with_reducible exact ih3 _ _ _ _)
      | (with_reducible exact ih4 _ _ _ _)
      | (with_reducible exact ih5 _ _ _ _ _)
      | (with_reducible exact ih6 _ _ _ _)
      | (with_reducible exact windlassref5_isWord.mono _ _)
      | (with_reducible exact windlassref5_text.mono _ _ _)
      | (with_reducible exact LeO.refl _)
      | (with_reducible exact LeO.none _)
      | (with_reducible refine LeO.ite ?_ ?_)
      | (with_reducible refine LeO.bind ?_ (fun _ => ?_))
      | exact ih0 _ _ _
      | exact ih1 _ _ _ _ _ _
      | exact ih2 _ _ _
      | exact ih3 _ _ _ _
      | exact ih4 _ _ _ _
      | exact ih5 _ _ _ _ _
      | exact ih6 _ _ _ _
      | exact windlassref5_isWord.mono _ _
      | exact windlassref5_text.mono _ _ _
      | exact LeO.none _
      | refine LeO.ite ?_ ?_
      | refine LeO.bind ?_ (fun _ => ?_)
    · intro y0 y1 y2 y3 y4 y5
      unfold windlassref5_Tokens.j1
      repeat' first
      | (with_reducible exact ih0 _ _ _)
      | (with_reducible exact ih1 _ _ _ _ _ _)
      | (with_reducible exact ih2 _ _ _)
      | (with_reducible exact ih3 _ _ _ _)
      | (with_reducible exact ih4 _ _ _ _)
      | (with_reducible exact ih5 _ _ _ _ _)
      | (with_reducible exact ih6 _ _ _ _)
      | (with_reducible exact windlassref5_isWord.mono _ _)
      | (with_reducible exact windlassref5_text.mono _ _ _)
      | (with_reducible exact LeO.refl _)
      | (with_reducible exact LeO.none _)
      | (with_reducible refine LeO.ite ?_ ?_)
      | (with_reducible refine LeO.bind ?_ (fun _ => ?_))
      | exact ih0 _ _ _
      | exact ih1 _ _ _ _ _ _
      | exact ih2 _ _ _
      | exact ih3 _ _ _ _
      | exact ih4 _ _ _ _
      | exact ih5 _ _ _ _ _
      | exact ih6 _ _ _ _
      | exact windlassref5_isWord.mono _ _
      | exact windlassref5_text.mono _ _ _
      | exact LeO.none _
      | refine LeO.ite ?_ ?_
      | refine LeO.bind ?_ (fun _ => ?_)
    · intro y0 y1 y2
      unfold windlassref5_Tokens.l1
      repeat' first
      | (with_reducible exact ih0 _ _ _)
      | (with_reducible exact ih1 _ _ _ _ _ _)
      | (with_reducible exact ih2 _ _ _)
      | (with_reducible exact ih3 _ _ _ _)
      | (with_reducible exact ih4 _ _ _ _)
      | (with_reducible exact ih5 _ _ _ _ _)
      | (with_reducible exact ih6 _ _ _ _)
      | (with_reducible exact windlassref5_isWord.mono _ _)
      | (with_reducible exact windlassref5_text.mono _ _ _)
      | (with_reducible exact LeO.refl _)
      | (with_reducible exact LeO.none _)
      | (with_reducible refine LeO.ite ?_ ?_)
      | (with_reducible refine LeO.bind ?_ (fun _ => ?_))
      | exact ih0 _ _ _
      | exact ih1 _ _ _ _ _ _
      | exact ih2 _ _ _
      | exact ih3 _ _ _ _
      | exact ih4 _ _ _ _
      | exact ih5 _ _ _ _ _
      | exact ih6 _ _ _ _
      | exact windlassref5_isWord.mono _ _
      | exact windlassref5_text.mono _ _ _
      | exact LeO.none _
      | refine LeO.ite ?_ ?_
      | refine LeO.bind ?_ (fun _ => ?_)
    · intro y0 y1 y2 y3
      unfold windlassref5_Tokens.l2
      repeat' first
      | (with_reducible exact ih0 _ _ _)
      | (with_reducible exact ih1 _ _ _ _ _ _)
      | (with_reducible exact ih2 _ _ _)
      | (with_reducible exact ih3 _ _ _ _)
      | (with_reducible exact ih4 _ _ _ _)
      | (with_reducible exact ih5 _ _ _ _ _)
      | (with_reducible exact ih6 _ _ _ _)
      | (with_reducible exact windlassref5_isWord.mono _ _)
      | (with_reducible exact windlassref5_text.mono _ _ _)
      | (with_reducible exact LeO.refl _)
      | (with_reducible exact LeO.none _)
      | (with_reducible refine LeO.ite ?_ ?_)
      | (with_reducible refine LeO.bind ?_ (fun _ => ?_))
      | exact ih0 _ _ _
      | exact ih1 _ _ _ _ _ _
      | exact ih2 _ _ _
      | exact ih3 _ _ _ _
      | exact ih4 _ _ _ _
      | exact ih5 _ _ _ _ _
      | exact ih6 _ _ _ _
      | exact windlassref5_isWord.mono _ _
      | exact windlassref5_text.mono _ _ _
      | exact LeO.none _
      | refine LeO.ite ?_ ?_
      | refine LeO.bind ?_ (fun _ => ?_)
    · intro y0 y1 y2 y3
      unfold windlassref5_Tokens.j5
      repeat' first
      | (with_reducible exact ih0 _ _ _)
      | (with_reducible exact ih1 _ _ _ _ _ _)
      | (with_reducible exact ih2 _ _ _)
      | (with_reducible exact ih3 _ _ _ _)
      | (with_reducible exact ih4 _ _ _ _)
      | (with_reducible exact ih5 _ _ _ _ _)
      | (with_reducible exact ih6 _ _ _ _)
      | (with_reducible exact windlassref5_isWord.mono _ _)
      | (with_reducible exact windlassref5_text.mono _ _ _)
      | (with_reducible exact LeO.refl _)
      | (with_reducible exact LeO.none _)
      | (with_reducible refine LeO.ite ?_ ?_)
      | (with_reducible refine LeO.bind ?_ (fun _ => ?_))
      | exact ih0 _ _ _
      | exact ih1 _ _ _ _ _ _
      | exact ih2 _ _ _
      | exact ih3 _ _ _ _
      | exact ih4 _ _ _ _
      | exact ih5 _ _ _ _ _
      | exact ih6 _ _ _ _
      | exact windlassref5_isWord.mono _ _
      | exact windlassref5_text.mono _ _ _
      | exact LeO.none _
      | refine LeO.ite ?_ ?_
      | refine LeO.bind ?_ (fun _ => ?_)
    · intro y0 y1 y2 y3 y4
      unfold windlassref5_Tokens.l4
      repeat' first
      | (with_reducible exact ih0 _ _ _)
      | (with_reducible exact ih1 _ _ _ _ _ _)
      | (with_reducible exact ih2 _ _ _)
      | (with_reducible exact ih3 _ _ _ _)
      | (with_reducible exact ih4 _ _ _ _)
      | (with_reducible exact ih5 _ _ _ _ _)
      | (with_reducible exact ih6 _ _ _ _)
      | (with_reducible exact windlassref5_isWord.mono _ _)
      | (with_reducible exact windlassref5_text.mono _ _ _)
      | (with_reducible exact LeO.refl _)
      | (with_reducible exact LeO.none _)
      | (with_reducible refine LeO.ite ?_ ?_)
      | (with_reducible refine LeO.bind ?_ (fun _ => ?_))
      | exact ih0 _ _ _
      | exact ih1 _ _ _ _ _ _
      | exact ih2 _ _ _
      | exact ih3 _ _ _ _
      | exact ih4 _ _ _ _
      | exact ih5 _ _ _ _ _
      | exact ih6 _ _ _ _
      | exact windlassref5_isWord.mono _ _
      | exact windlassref5_text.mono _ _ _
      | exact LeO.none _
      | refine LeO.ite ?_ ?_
      | refine LeO.bind ?_ (fun _ => ?_)
    · intro y0 y1 y2 y3
      unfold windlassref5_Tokens.l3
      repeat' first
      | (with_reducible exact ih0 _ _ _)
      | (with_reducible exact ih1 _ _ _ _ _ _)
      | (with_reducible exact ih2 _ _ _)
      | (with_reducible exact ih3 _ _ _ _)
      | (with_reducible exact ih4 _ _ _ _)
      | (with_reducible exact ih5 _ _ _ _ _)
      | (with_reducible exact ih6 _ _ _ _)
      | (with_reducible exact windlassref5_isWord.mono _ _)
      | (with_reducible exact windlassref5_text.mono _ _ _)
      | (with_reducible exact LeO.refl _)
      | (with_reducible exact LeO.none _)
      | (with_reducible refine LeO.ite ?_ ?_)
      | (with_reducible refine LeO.bind ?_ (fun _ => ?_))
      | exact ih0 _ _ _
      | exact ih1 _ _ _ _ _ _
      | exact ih2 _ _ _
      | exact ih3 _ _ _ _
      | exact ih4 _ _ _ _
      | exact ih5 _ _ _ _ _
      | exact ih6 _ _ _ _
      | exact windlassref5_isWord.mono _ _
      | exact windlassref5_text.mono _ _ _
      | exact LeO.none _
      | refine LeO.ite ?_ ?_
      | refine LeO.bind ?_ (fun _ => ?_)
theorem windlassref5_Tokens.mono : ∀ a0 k, LeO (windlassref5_Tokens.f k a0) (windlassref5_Tokens.f (k + 1) a0) := by
  intro a0 k
  obtain ⟨ih0, ih1, ih2, ih3, ih4, ih5, ih6⟩ := windlassref5_Tokens.mono_l k
  unfold windlassref5_Tokens.f
  repeat' first
      | (with_reducible exact ih0 _ _ _)
      | (with_reducible exact ih1 _ _ _ _ _ _)
      | (with_reducible exact ih2 _ _ _)
      | (with_reducible exact ih3 _ _ _ _)
      | (with_reducible exact ih4 _ _ _ _)
      | (with_reducible exact ih5 _ _ _ _ _)
      | (with_reducible exact ih6 _ _ _ _)
      | (with_reducible exact windlassref5_isWord.mono _ _)
      | (with_reducible exact windlassref5_text.mono _ _ _)
      | (with_reducible exact LeO.refl _)
      | (with_reducible exact LeO.none _)
      | (with_reducible refine LeO.ite ?_ ?_)
      | (with_reducible refine LeO.bind ?_ (fun _ => ?_))
      | exact ih0 _ _ _
      | exact ih1 _ _ _ _ _ _
      | exact ih2 _ _ _
      | exact ih3 _ _ _ _
      | exact ih4 _ _ _ _
      | exact ih5 _ _ _ _ _
      | exact ih6 _ _ _ _
      | exact windlassref5_isWord.mono _ _
      | exact windlassref5_text.mono _ _ _
      | exact LeO.none _
      | refine LeO.ite ?_ ?_
      | refine LeO.bind ?_ (fun _ => ?_)
set_option maxHeartbeats 8000000 in
set_option maxRecDepth 100000 in
theorem windlassref5_Tokens.calls (k : Nat) (a0 : ByteArray) (r1 : List (S28)) (r2 : Int) (r3 : Int) (w : World) (h : windlassref5_Tokens.f k a0 = some (r1, r2, r3)) :
    Calls Tryd.prog 11 #[.string a0] w fun e w' => ∃ v0_ : Value, e = .returned (.tuple #[v0_, .int .i64 r2, .int .i64 r3]) ∧ Kd.R k28 28 w' w.heap.size (fun _ => True) v0_ r1 ∧ Below w.heap.size w w' := by
  have hu28 := Tryd.underlying28
  have HB := Aside0.mk (Below.refl w.heap.size w)
  have H : (if (a0.size : Int) > 4096 then (some (([] : List (S28)), 0, 50)) else (windlassref5_Tokens.l0 k a0 ([] : List (S28)) 0)) = some (r1, r2, r3) := h
  clear h
  by_cases c2 : (a0.size : Int) > 4096
  · rw [if_pos c2] at H
    have c2b0 : decide (4096 < (a0.size : Int)) = true := decide_eq_true c2
    have c2b1 : decide (4096 < a0.size) = true := decide_eq_true (by omega)
    clear c2
    simp only [Option.some.injEq, Prod.mk.injEq] at H
    obtain ⟨rfl, rfl, rfl⟩ := H
    go_enter Tryd.func11, Tryd.ntmps11
    go_wp2
    go_ret3
    exact ⟨_, by first | rfl | (simp [errW_none, errW_some] <;> rfl) | (simp [*, errW_none, errW_some] <;> rfl), by first | exact Kd.R_nil _ _ _ _ _ | exact Kd.N_nil _ _ _ _ _ | exact Kd.V_nil _ _ _ _ _ | exact Kd.Q_nil _ _ _ _ _ | exact Kd.S_nil _ _ _ _ _, by repeat (first | (with_reducible first | exact HB.out | apply below_alloc | apply pw_below_drewN | apply below_drew1) | exact HB.out)⟩
  · rw [if_neg c2] at H
    have c2b0 : decide (4096 < (a0.size : Int)) = false := decide_eq_false c2
    have c2b1 : decide (4096 < a0.size) = false := decide_eq_false (by omega)
    clear c2
    have H' := Aside0.mk H
    clear H
    go_enter Tryd.func11, Tryd.ntmps11
    go_wp2
    go_loopg [5, 6] k (fun kq v5 v6 w' => ∃ (x5_1 : List (S28)) (x6_1 : Int), v6 = .int .i64 x6_1 ∧ Aside0 (windlassref5_Tokens.l0 kq a0 x5_1 x6_1 = some (r1, r2, r3)) ∧ Aside0 (kq ≤ k) ∧ Aside0 (Kd.R k28 28 w' w.heap.size (fun _ => True) v5 x5_1) ∧ Aside0 (Below w.heap.size w w'))
    case atStart => exact ⟨(([] : List (S28))), (0), (by first | rfl | (simp; done) | (simp [*]; done)), H', ⟨Nat.le_refl _⟩, ⟨by first | exact Kd.R_nil _ _ _ _ _ | exact Kd.N_nil _ _ _ _ _ | exact Kd.V_nil _ _ _ _ _ | exact Kd.Q_nil _ _ _ _ _ | exact Kd.S_nil _ _ _ _ _⟩, ⟨by repeat (first | (with_reducible first | exact HB.out | apply below_alloc | apply pw_below_drewN | apply below_drew1) | exact HB.out)⟩⟩
    case round =>
      clear H'
      try clear c1
      try clear c2
      try clear c2b0
      try clear c2b1
      try clear p2
      obtain ⟨x5_1, x6_1, rfl, HA, HK1, HO_5, HB⟩ := hrel
      cases gk with
      | zero => exact absurd HA.out (by simp [windlassref5_Tokens.l0])
      | succ k1 =>
        have H := HA.out
        clear HA
        simp only [windlassref5_Tokens.l0] at H
        by_cases c3 : x6_1 < (a0.size : Int)
        · rw [if_pos c3] at H
          have c3b0 : decide (x6_1 < (a0.size : Int)) = true := decide_eq_true c3
          clear c3
          by_cases c4 : 0 ≤ x6_1
          · rw [if_pos c4] at H
            have c4b0 : decide (0 ≤ x6_1) = true := decide_eq_true c4
            clear c4
            have HC6 := Aside0.mk H
            clear H
            have p5 : 0 ≤ (x6_1 : Int) := of_decide_eq_true (by first | (with_reducible assumption) | assumption)
            have q5 : x6_1 < (a0.size : Int) := of_decide_eq_true (by first | (with_reducible assumption) | assumption)
            have hx5 := bt_at a0 x6_1
            replace p5 := eq_true p5
            replace q5 := eq_true q5
            go_upto_region 13 with (fail)
            go_cut [42] (fun v42 wc => ∃ (kq : Nat) (x42_5 : Bool), v42 = .bool x42_5 ∧ Aside0 (windlassref5_Tokens.j1 kq a0 x5_1 x6_1 (bt a0 x6_1) x6_1 x42_5 = some (r1, r2, r3)) ∧ Aside0 (kq ≤ k1) ∧ Aside0 (Kd.R k28 28 wc w.heap.size (fun _ => True) u5 x5_1) ∧ Aside0 (Below w.heap.size w wc))
            case first =>
              have H := HC6.out
              clear HC6
              by_cases c7 : (bt a0 x6_1) = 32
              · rw [if_pos c7] at H
                have c7b0 : ((bt a0 x6_1) == 32) = true := beq_iff_eq.mpr c7
                have c7b1 : ((bt a0 x6_1) != 32) = false := bne_eq_false_iff_eq.mpr c7
                clear c7
                (first | rw [c7b0] | (simp only [i64_w, i32_w]; rw [c7b0]) | skip)
                have H' := Aside0.mk H
                clear H
                go_wp2
                go_meet
                case rel => exact ⟨_, (true), (by first | rfl | (simp; done) | (simp [*]; done)), H', ⟨by have := HK1.out; first | omega | exact Nat.le_refl _⟩, ⟨by (with_reducible repeat (first | apply Kd.R_alloc | apply Kd.R_drewN | apply Kd.R_drew)); exact HO_5.out⟩, ⟨by repeat (first | (with_reducible first | exact HB.out | apply below_alloc | apply pw_below_drewN | apply below_drew1) | exact HB.out)⟩⟩
              · rw [if_neg c7] at H
                have c7b0 : ((bt a0 x6_1) == 32) = false := beq_eq_false_iff_ne.mpr c7
                have c7b1 : ((bt a0 x6_1) != 32) = true := bne_iff_ne.mpr c7
                (first | rw [c7b0] | (simp only [i64_w, i32_w]; rw [c7b0]) | skip)
                by_cases c8 : (bt a0 x6_1) = 9
                · rw [if_pos c8] at H
                  have c8b0 : ((bt a0 x6_1) == 9) = true := beq_iff_eq.mpr c8
                  have c8b1 : ((bt a0 x6_1) != 9) = false := bne_eq_false_iff_eq.mpr c8
                  clear c8
                  have H' := Aside0.mk H
                  clear H
                  go_wp2
                  go_meet
                  case rel => exact ⟨_, (true), (by first | rfl | (simp; done) | (simp [*]; done)), H', ⟨by have := HK1.out; first | omega | exact Nat.le_refl _⟩, ⟨by (with_reducible repeat (first | apply Kd.R_alloc | apply Kd.R_drewN | apply Kd.R_drew)); exact HO_5.out⟩, ⟨by repeat (first | (with_reducible first | exact HB.out | apply below_alloc | apply pw_below_drewN | apply below_drew1) | exact HB.out)⟩⟩
                · rw [if_neg c8] at H
                  have c8b0 : ((bt a0 x6_1) == 9) = false := beq_eq_false_iff_ne.mpr c8
                  have c8b1 : ((bt a0 x6_1) != 9) = true := bne_iff_ne.mpr c8
                  by_cases c9 : (bt a0 x6_1) = 10
                  · rw [if_pos c9] at H
                    have c9b0 : ((bt a0 x6_1) == 10) = true := beq_iff_eq.mpr c9
                    have c9b1 : ((bt a0 x6_1) != 10) = false := bne_eq_false_iff_eq.mpr c9
                    clear c9
                    have H' := Aside0.mk H
                    clear H
                    go_wp2
                    go_meet
                    case rel => exact ⟨_, (true), (by first | rfl | (simp; done) | (simp [*]; done)), H', ⟨by have := HK1.out; first | omega | exact Nat.le_refl _⟩, ⟨by (with_reducible repeat (first | apply Kd.R_alloc | apply Kd.R_drewN | apply Kd.R_drew)); exact HO_5.out⟩, ⟨by repeat (first | (with_reducible first | exact HB.out | apply below_alloc | apply pw_below_drewN | apply below_drew1) | exact HB.out)⟩⟩
                  · rw [if_neg c9] at H
                    have c9b0 : ((bt a0 x6_1) == 10) = false := beq_eq_false_iff_ne.mpr c9
                    have c9b1 : ((bt a0 x6_1) != 10) = true := bne_iff_ne.mpr c9
                    have H' := Aside0.mk H
                    clear H
                    go_wp2
                    go_meet
                    case rel => exact ⟨_, (((bt a0 x6_1) == 13)), (by first | rfl | (simp; done) | (simp [*]; done)), H', ⟨by have := HK1.out; first | omega | exact Nat.le_refl _⟩, ⟨by (with_reducible repeat (first | apply Kd.R_alloc | apply Kd.R_drewN | apply Kd.R_drew)); exact HO_5.out⟩, ⟨by repeat (first | (with_reducible first | exact HB.out | apply below_alloc | apply pw_below_drewN | apply below_drew1) | exact HB.out)⟩⟩
            case rest =>
              clear HC6
              try clear c1
              try clear c2
              try clear c2b0
              try clear c2b1
              try clear p2
              try clear c3
              try clear c3b0
              try clear c4
              try clear c4b0
              try clear p5
              try clear q5
              try clear hx5
              try clear c7
              try clear c7b0
              try clear c7b1
              try clear c8
              try clear c8b0
              try clear c8b1
              try clear c9
              try clear c9b0
              try clear c9b1
              try clear p2
              try clear p5
              try clear q5
              obtain ⟨kq, x42_5, rfl, HA, HJ5, HO_5, HB⟩ := hcut
              cases kq with
              | zero => exact absurd HA.out (by simp [windlassref5_Tokens.j1])
              | succ kj5 =>
                have H := HA.out
                clear HA
                simp only [windlassref5_Tokens.j1] at H
                by_cases c10 : x42_5 = true
                · subst c10
                  have H1 : (windlassref5_Tokens.l0 kj5 a0 x5_1 (wrap64 (x6_1 + 1))) = some (r1, r2, r3) := by rw [if_pos rfl] at H; exact H
                  clear H
                  have H := H1
                  clear H1
                  have H' := Aside0.mk H
                  clear H
                  go_wp2
                  go_roundg kj5
                  case measure => have := HK1.out; have := HJ5.out; omega
                  case rel => exact ⟨(x5_1), (wrap64 (x6_1 + 1)), (by first | rfl | (simp; done) | (simp [*]; done)), H', ⟨by have := HK1.out; have := HJ5.out; omega⟩, ⟨by (with_reducible repeat (first | apply Kd.R_alloc | apply Kd.R_drewN | apply Kd.R_drew)); exact HO_5.out⟩, ⟨by repeat (first | (with_reducible first | exact HB.out | apply below_alloc | apply pw_below_drewN | apply below_drew1) | exact HB.out)⟩⟩
                · replace c10 := Bool.eq_false_iff.mpr c10
                  subst c10
                  have H1 : (if (bt a0 x6_1) = 35 then (windlassref5_Tokens.l1 kj5 a0 x5_1 x6_1) else ((windlassref5_letter.f (bt a0 x6_1)).bind fun t117 => (if t117 = true then (windlassref5_Tokens.l2 kj5 a0 x5_1 x6_1 x6_1) else ((windlassref5_digit.f (bt a0 x6_1)).bind fun t134 => (if t134 = true then (windlassref5_Tokens.l3 kj5 a0 x5_1 x6_1 x6_1) else (if (bt a0 x6_1) = 34 then ((windlassref5_text.f kj5 a0 x6_1).bind fun bt142 => (if bt142.2.2 = true then (if x5_1.length < 4398046511104 then (windlassref5_Tokens.l0 kj5 a0 (x5_1 ++ [(⟨4, bt142.1, x6_1⟩ : S28)]) bt142.2.1) else (none)) else (some (([] : List (S28)), x6_1, 52)))) else ((windlassref5_sign.f a0 x6_1).bind fun t148 => (if t148.toList = ([] : List UInt8) then (some (([] : List (S28)), x6_1, 51)) else (if x5_1.length < 4398046511104 then (windlassref5_Tokens.l0 kj5 a0 (x5_1 ++ [(⟨5, t148, x6_1⟩ : S28)]) (wrap64 (x6_1 + (t148.size : Int)))) else (none)))))))))) = some (r1, r2, r3) := by rw [if_neg (show ¬ (false = true) by decide)] at H; exact H
                  clear H
                  have H := H1
                  clear H1
                  by_cases c11 : (bt a0 x6_1) = 35
                  · rw [if_pos c11] at H
                    have c11b0 : ((bt a0 x6_1) == 35) = true := beq_iff_eq.mpr c11
                    have c11b1 : ((bt a0 x6_1) != 35) = false := bne_eq_false_iff_eq.mpr c11
                    clear c11
                    have H' := Aside0.mk H
                    clear H
                    go_wp2
                    go_loopg [6] kj5 (fun kq v6 w' => ∃ (x6_3 : Int), v6 = .int .i64 x6_3 ∧ Aside0 (windlassref5_Tokens.l1 kq a0 x5_1 x6_3 = some (r1, r2, r3)) ∧ Aside0 (kq ≤ kj5) ∧ Aside0 (Kd.R k28 28 w' w.heap.size (fun _ => True) u5 x5_1) ∧ Aside0 (Below w.heap.size w w'))
                    case atStart => exact ⟨(x6_1), (by first | rfl | (simp; done) | (simp [*]; done)), H', ⟨Nat.le_refl _⟩, ⟨by (with_reducible repeat (first | apply Kd.R_alloc | apply Kd.R_drewN | apply Kd.R_drew)); exact HO_5.out⟩, ⟨by repeat (first | (with_reducible first | exact HB.out | apply below_alloc | apply pw_below_drewN | apply below_drew1) | exact HB.out)⟩⟩
                    case round =>
                      clear H'
                      try clear c1
                      try clear c2
                      try clear c2b0
                      try clear c2b1
                      try clear p2
                      try clear c3
                      try clear c3b0
                      try clear c4
                      try clear c4b0
                      try clear p5
                      try clear q5
                      try clear hx5
                      try clear p6
                      try clear c7
                      try clear c7b0
                      try clear c7b1
                      try clear c8
                      try clear c8b0
                      try clear c8b1
                      try clear c9
                      try clear c9b0
                      try clear c9b1
                      try clear c10
                      try clear c11
                      try clear c11b0
                      try clear c11b1
                      try clear p2
                      try clear p5
                      try clear q5
                      obtain ⟨x6_3, rfl, HA, HK3, HO_5, HB⟩ := hrel
                      cases gk with
                      | zero => exact absurd HA.out (by simp [windlassref5_Tokens.l1])
                      | succ k3 =>
                        have H := HA.out
                        clear HA
                        simp only [windlassref5_Tokens.l1] at H
                        by_cases c12 : x6_3 < (a0.size : Int)
                        · rw [if_pos c12] at H
                          have c12b0 : decide (x6_3 < (a0.size : Int)) = true := decide_eq_true c12
                          clear c12
                          by_cases c13 : 0 ≤ x6_3
                          · rw [if_pos c13] at H
                            have c13b0 : decide (0 ≤ x6_3) = true := decide_eq_true c13
                            clear c13
                            by_cases c15 : (bt a0 x6_3) = 10
                            · rw [if_pos c15] at H
                              have c15b0 : ((bt a0 x6_3) == 10) = true := beq_iff_eq.mpr c15
                              have c15b1 : ((bt a0 x6_3) != 10) = false := bne_eq_false_iff_eq.mpr c15
                              clear c15
                              have H' := Aside0.mk H
                              clear H
                              have p14 : 0 ≤ (x6_3 : Int) := of_decide_eq_true (by first | (with_reducible assumption) | assumption)
                              have q14 : x6_3 < (a0.size : Int) := of_decide_eq_true (by first | (with_reducible assumption) | assumption)
                              have hx14 := bt_at a0 x6_3
                              replace p14 := eq_true p14
                              replace q14 := eq_true q14
                              go_wp2
                              go_roundg k3
                              case measure => have := HK1.out; have := HJ5.out; have := HK3.out; omega
                              case rel => exact ⟨(x5_1), (x6_3), (by first | rfl | (simp; done) | (simp [*]; done)), H', ⟨by have := HK1.out; have := HJ5.out; have := HK3.out; omega⟩, ⟨by (with_reducible repeat (first | apply Kd.R_alloc | apply Kd.R_drewN | apply Kd.R_drew)); exact HO_5.out⟩, ⟨by repeat (first | (with_reducible first | exact HB.out | apply below_alloc | apply pw_below_drewN | apply below_drew1) | exact HB.out)⟩⟩
                            · rw [if_neg c15] at H
                              have c15b0 : ((bt a0 x6_3) == 10) = false := beq_eq_false_iff_ne.mpr c15
                              have c15b1 : ((bt a0 x6_3) != 10) = true := bne_iff_ne.mpr c15
                              have H' := Aside0.mk H
                              clear H
                              have p14 : 0 ≤ (x6_3 : Int) := of_decide_eq_true (by first | (with_reducible assumption) | assumption)
                              have q14 : x6_3 < (a0.size : Int) := of_decide_eq_true (by first | (with_reducible assumption) | assumption)
                              have hx14 := bt_at a0 x6_3
                              replace p14 := eq_true p14
                              replace q14 := eq_true q14
                              go_wp2
                              go_roundg k3
                              case measure => have := HK1.out; have := HJ5.out; have := HK3.out; omega
                              case rel => exact ⟨(wrap64 (x6_3 + 1)), (by first | rfl | (simp; done) | (simp [*]; done)), H', ⟨by have := HK1.out; have := HJ5.out; have := HK3.out; omega⟩, ⟨by (with_reducible repeat (first | apply Kd.R_alloc | apply Kd.R_drewN | apply Kd.R_drew)); exact HO_5.out⟩, ⟨by repeat (first | (with_reducible first | exact HB.out | apply below_alloc | apply pw_below_drewN | apply below_drew1) | exact HB.out)⟩⟩
                          · rw [if_neg c13] at H
                            exact absurd H (by simp)
                        · rw [if_neg c12] at H
                          have c12b0 : decide (x6_3 < (a0.size : Int)) = false := decide_eq_false c12
                          clear c12
                          have H' := Aside0.mk H
                          clear H
                          go_wp2
                          go_roundg k3
                          case measure => have := HK1.out; have := HJ5.out; have := HK3.out; omega
                          case rel => exact ⟨(x5_1), (x6_3), (by first | rfl | (simp; done) | (simp [*]; done)), H', ⟨by have := HK1.out; have := HJ5.out; have := HK3.out; omega⟩, ⟨by (with_reducible repeat (first | apply Kd.R_alloc | apply Kd.R_drewN | apply Kd.R_drew)); exact HO_5.out⟩, ⟨by repeat (first | (with_reducible first | exact HB.out | apply below_alloc | apply pw_below_drewN | apply below_drew1) | exact HB.out)⟩⟩
                  · rw [if_neg c11] at H
                    have c11b0 : ((bt a0 x6_1) == 35) = false := beq_eq_false_iff_ne.mpr c11
                    have c11b1 : ((bt a0 x6_1) != 35) = true := bne_iff_ne.mpr c11
                    replace H := Option.bind_eq_some_iff.mp H
                    obtain ⟨t117, A160, H⟩ := H
                    replace H : (if t117 = true then (windlassref5_Tokens.l2 kj5 a0 x5_1 x6_1 x6_1) else ((windlassref5_digit.f (bt a0 x6_1)).bind fun t134 => (if t134 = true then (windlassref5_Tokens.l3 kj5 a0 x5_1 x6_1 x6_1) else (if (bt a0 x6_1) = 34 then ((windlassref5_text.f kj5 a0 x6_1).bind fun bt142 => (if bt142.2.2 = true then (if x5_1.length < 4398046511104 then (windlassref5_Tokens.l0 kj5 a0 (x5_1 ++ [(⟨4, bt142.1, x6_1⟩ : S28)]) bt142.2.1) else (none)) else (some (([] : List (S28)), x6_1, 52)))) else ((windlassref5_sign.f a0 x6_1).bind fun t148 => (if t148.toList = ([] : List UInt8) then (some (([] : List (S28)), x6_1, 51)) else (if x5_1.length < 4398046511104 then (windlassref5_Tokens.l0 kj5 a0 (x5_1 ++ [(⟨5, t148, x6_1⟩ : S28)]) (wrap64 (x6_1 + (t148.size : Int)))) else (none)))))))) = some (r1, r2, r3) := H
                    have A16 := Aside0.mk A160
                    clear A160
                    by_cases c17 : t117 = true
                    · subst c17
                      have H1 : (windlassref5_Tokens.l2 kj5 a0 x5_1 x6_1 x6_1) = some (r1, r2, r3) := by rw [if_pos rfl] at H; exact H
                      clear H
                      have H := H1
                      clear H1
                      have H' := Aside0.mk H
                      clear H
                      go_wp2_with (first | ((with_reducible refine gate_callee (f := 32) rfl ?_); refine goesL_ (some 76) rfl rfl Tryd.func32 (by kernel_rfl) rfl #[.int .u8 (bt a0 x6_1)] rfl (by (try simp only [List.map_toArray, List.map_cons, List.map_nil]); first | done | rfl | (simp only [List.length_drop, List.length_take]; rfl)) ?_; (with_reducible refine (windlassref5_letter.calls (bt a0 x6_1) true _ A16.out).mono ?_); rintro e w' ⟨rfl, ⟨nd, rfl⟩⟩; refine ⟨_, rfl, ?_⟩))
                      go_loopg [6] kj5 (fun kq v6 w' => ∃ (x6_3 : Int), v6 = .int .i64 x6_3 ∧ Aside0 (windlassref5_Tokens.l2 kq a0 x5_1 x6_3 x6_1 = some (r1, r2, r3)) ∧ Aside0 (kq ≤ kj5) ∧ Aside0 (Kd.R k28 28 w' w.heap.size (fun _ => True) u5 x5_1) ∧ Aside0 (Below w.heap.size w w'))
                      case atStart => exact ⟨(x6_1), (by first | rfl | (simp; done) | (simp [*]; done)), H', ⟨Nat.le_refl _⟩, ⟨by (with_reducible repeat (first | apply Kd.R_alloc | apply Kd.R_drewN | apply Kd.R_drew)); exact HO_5.out⟩, ⟨by repeat (first | (with_reducible first | exact HB.out | apply below_alloc | apply pw_below_drewN | apply below_drew1) | exact HB.out)⟩⟩
                      case round =>
                        clear H'
                        try clear c1
                        try clear p1
                        try clear q1
                        try clear hx1
                        try clear c2
                        try clear c2b0
                        try clear c2b1
                        try clear p2
                        try clear c3
                        try clear c3b0
                        try clear c4
                        try clear c4b0
                        try clear p5
                        try clear q5
                        try clear hx5
                        try clear p6
                        try clear c7
                        try clear c7b0
                        try clear c7b1
                        try clear c8
                        try clear c8b0
                        try clear c8b1
                        try clear c9
                        try clear c9b0
                        try clear c9b1
                        try clear c10
                        try clear c11
                        try clear c11b0
                        try clear c11b1
                        try clear c12
                        try clear c12b0
                        try clear c13
                        try clear c13b0
                        try clear p14
                        try clear q14
                        try clear hx14
                        try clear c15
                        try clear c15b0
                        try clear c15b1
                        try clear c17
                        try clear p14
                        try clear p2
                        try clear p5
                        try clear p6
                        try clear q14
                        try clear q5
                        obtain ⟨x6_3, rfl, HA, HK3, HO_5, HB⟩ := hrel
                        cases gk with
                        | zero => exact absurd HA.out (by simp [windlassref5_Tokens.l2])
                        | succ k3 =>
                          have H := HA.out
                          clear HA
                          simp only [windlassref5_Tokens.l2] at H
                          by_cases c18 : x6_3 < (a0.size : Int)
                          · rw [if_pos c18] at H
                            have c18b0 : decide (x6_3 < (a0.size : Int)) = true := decide_eq_true c18
                            clear c18
                            by_cases c19 : 0 ≤ x6_3
                            · rw [if_pos c19] at H
                              have c19b0 : decide (0 ≤ x6_3) = true := decide_eq_true c19
                              clear c19
                              replace H := Option.bind_eq_some_iff.mp H
                              obtain ⟨t118, A210, H⟩ := H
                              replace H : (if t118 = true then (windlassref5_Tokens.l2 k3 a0 x5_1 (wrap64 (x6_3 + 1)) x6_1) else ((windlassref5_digit.f (bt a0 x6_3)).bind fun t119 => (if t119 = true then (windlassref5_Tokens.l2 k3 a0 x5_1 (wrap64 (x6_3 + 1)) x6_1) else (if 0 ≤ x6_1 then (if x6_1 ≤ x6_3 then (if x6_3 ≤ (a0.size : Int) then ((windlassref5_isWord.f k3 (a0.extract (x6_1 : Int).toNat (x6_3 : Int).toNat)).bind fun t120 => (if t120 = true then (if x5_1.length < 4398046511104 then (windlassref5_Tokens.l0 k3 a0 (x5_1 ++ [(⟨2, a0.extract (x6_1 : Int).toNat (x6_3 : Int).toNat, x6_1⟩ : S28)]) x6_3) else (none)) else (if x5_1.length < 4398046511104 then (windlassref5_Tokens.l0 k3 a0 (x5_1 ++ [(⟨1, a0.extract (x6_1 : Int).toNat (x6_3 : Int).toNat, x6_1⟩ : S28)]) x6_3) else (none)))) else (none)) else (none)) else (none))))) = some (r1, r2, r3) := H
                              have A21 := Aside0.mk A210
                              clear A210
                              by_cases c22 : t118 = true
                              · subst c22
                                have H1 : (windlassref5_Tokens.l2 k3 a0 x5_1 (wrap64 (x6_3 + 1)) x6_1) = some (r1, r2, r3) := by rw [if_pos rfl] at H; exact H
                                clear H
                                have H := H1
                                clear H1
                                have H' := Aside0.mk H
                                clear H
                                have p20 : 0 ≤ (x6_3 : Int) := of_decide_eq_true (by first | (with_reducible assumption) | assumption)
                                have q20 : x6_3 < (a0.size : Int) := of_decide_eq_true (by first | (with_reducible assumption) | assumption)
                                have hx20 := bt_at a0 x6_3
                                replace p20 := eq_true p20
                                replace q20 := eq_true q20
                                go_wp2_with (first | (go_at_call 32; (with_reducible refine (windlassref5_letter.calls (bt a0 x6_3) true _ A21.out).mono ?_); rintro e w' ⟨rfl, ⟨nd, rfl⟩⟩))
                                go_roundg k3
                                case measure => have := HK1.out; have := HJ5.out; have := HK3.out; omega
                                case rel => exact ⟨(wrap64 (x6_3 + 1)), (by first | rfl | (simp; done) | (simp [*]; done)), H', ⟨by have := HK1.out; have := HJ5.out; have := HK3.out; omega⟩, ⟨by (with_reducible repeat (first | apply Kd.R_alloc | apply Kd.R_drewN | apply Kd.R_drew)); exact HO_5.out⟩, ⟨by repeat (first | (with_reducible first | exact HB.out | apply below_alloc | apply pw_below_drewN | apply below_drew1) | exact HB.out)⟩⟩
                              · replace c22 := Bool.eq_false_iff.mpr c22
                                subst c22
                                have H1 : ((windlassref5_digit.f (bt a0 x6_3)).bind fun t119 => (if t119 = true then (windlassref5_Tokens.l2 k3 a0 x5_1 (wrap64 (x6_3 + 1)) x6_1) else (if 0 ≤ x6_1 then (if x6_1 ≤ x6_3 then (if x6_3 ≤ (a0.size : Int) then ((windlassref5_isWord.f k3 (a0.extract (x6_1 : Int).toNat (x6_3 : Int).toNat)).bind fun t120 => (if t120 = true then (if x5_1.length < 4398046511104 then (windlassref5_Tokens.l0 k3 a0 (x5_1 ++ [(⟨2, a0.extract (x6_1 : Int).toNat (x6_3 : Int).toNat, x6_1⟩ : S28)]) x6_3) else (none)) else (if x5_1.length < 4398046511104 then (windlassref5_Tokens.l0 k3 a0 (x5_1 ++ [(⟨1, a0.extract (x6_1 : Int).toNat (x6_3 : Int).toNat, x6_1⟩ : S28)]) x6_3) else (none)))) else (none)) else (none)) else (none)))) = some (r1, r2, r3) := by rw [if_neg (show ¬ (false = true) by decide)] at H; exact H
                                clear H
                                have H := H1
                                clear H1
                                replace H := Option.bind_eq_some_iff.mp H
                                obtain ⟨t119, A240, H⟩ := H
                                replace H : (if t119 = true then (windlassref5_Tokens.l2 k3 a0 x5_1 (wrap64 (x6_3 + 1)) x6_1) else (if 0 ≤ x6_1 then (if x6_1 ≤ x6_3 then (if x6_3 ≤ (a0.size : Int) then ((windlassref5_isWord.f k3 (a0.extract (x6_1 : Int).toNat (x6_3 : Int).toNat)).bind fun t120 => (if t120 = true then (if x5_1.length < 4398046511104 then (windlassref5_Tokens.l0 k3 a0 (x5_1 ++ [(⟨2, a0.extract (x6_1 : Int).toNat (x6_3 : Int).toNat, x6_1⟩ : S28)]) x6_3) else (none)) else (if x5_1.length < 4398046511104 then (windlassref5_Tokens.l0 k3 a0 (x5_1 ++ [(⟨1, a0.extract (x6_1 : Int).toNat (x6_3 : Int).toNat, x6_1⟩ : S28)]) x6_3) else (none)))) else (none)) else (none)) else (none))) = some (r1, r2, r3) := H
                                have A24 := Aside0.mk A240
                                clear A240
                                by_cases c25 : t119 = true
                                · subst c25
                                  have H1 : (windlassref5_Tokens.l2 k3 a0 x5_1 (wrap64 (x6_3 + 1)) x6_1) = some (r1, r2, r3) := by rw [if_pos rfl] at H; exact H
                                  clear H
                                  have H := H1
                                  clear H1
                                  have H' := Aside0.mk H
                                  clear H
                                  have p20 : 0 ≤ (x6_3 : Int) := of_decide_eq_true (by first | (with_reducible assumption) | assumption)
                                  have q20 : x6_3 < (a0.size : Int) := of_decide_eq_true (by first | (with_reducible assumption) | assumption)
                                  have hx20 := bt_at a0 x6_3
                                  replace p20 := eq_true p20
                                  replace q20 := eq_true q20
                                  go_wp2_with (first | (go_at_call 32; (with_reducible refine (windlassref5_letter.calls (bt a0 x6_3) false _ A21.out).mono ?_); rintro e w' ⟨rfl, ⟨nd, rfl⟩⟩; have p23 : 0 ≤ (x6_3 : Int) := of_decide_eq_true (by first | (with_reducible assumption) | assumption); have q23 : x6_3 < (a0.size : Int) := of_decide_eq_true (by first | (with_reducible assumption) | assumption); have hx23 := bt_at a0 x6_3; replace p23 := eq_true p23; replace q23 := eq_true q23) | (go_at_call 33; (with_reducible refine (windlassref5_digit.calls (bt a0 x6_3) true _ A24.out).mono ?_); rintro e w' ⟨rfl, ⟨nd, rfl⟩⟩))
                                  go_roundg k3
                                  case measure => have := HK1.out; have := HJ5.out; have := HK3.out; omega
                                  case rel => exact ⟨(wrap64 (x6_3 + 1)), (by first | rfl | (simp; done) | (simp [*]; done)), H', ⟨by have := HK1.out; have := HJ5.out; have := HK3.out; omega⟩, ⟨by (with_reducible repeat (first | apply Kd.R_alloc | apply Kd.R_drewN | apply Kd.R_drew)); exact HO_5.out⟩, ⟨by repeat (first | (with_reducible first | exact HB.out | apply below_alloc | apply pw_below_drewN | apply below_drew1) | exact HB.out)⟩⟩
                                · replace c25 := Bool.eq_false_iff.mpr c25
                                  subst c25
                                  have H1 : (if 0 ≤ x6_1 then (if x6_1 ≤ x6_3 then (if x6_3 ≤ (a0.size : Int) then ((windlassref5_isWord.f k3 (a0.extract (x6_1 : Int).toNat (x6_3 : Int).toNat)).bind fun t120 => (if t120 = true then (if x5_1.length < 4398046511104 then (windlassref5_Tokens.l0 k3 a0 (x5_1 ++ [(⟨2, a0.extract (x6_1 : Int).toNat (x6_3 : Int).toNat, x6_1⟩ : S28)]) x6_3) else (none)) else (if x5_1.length < 4398046511104 then (windlassref5_Tokens.l0 k3 a0 (x5_1 ++ [(⟨1, a0.extract (x6_1 : Int).toNat (x6_3 : Int).toNat, x6_1⟩ : S28)]) x6_3) else (none)))) else (none)) else (none)) else (none)) = some (r1, r2, r3) := by rw [if_neg (show ¬ (false = true) by decide)] at H; exact H
                                  clear H
                                  have H := H1
                                  clear H1
                                  by_cases c26 : 0 ≤ x6_1
                                  · rw [if_pos c26] at H
                                    have c26b0 := eq_true c26
                                    have c26b1 : decide (0 ≤ x6_1) = true := decide_eq_true c26
                                    clear c26
                                    by_cases c27 : x6_1 ≤ x6_3
                                    · rw [if_pos c27] at H
                                      have c27b0 := eq_true c27
                                      have c27b1 : decide (x6_1 ≤ x6_3) = true := decide_eq_true c27
                                      clear c27
                                      by_cases c28 : x6_3 ≤ (a0.size : Int)
                                      · rw [if_pos c28] at H
                                        have c28b0 := eq_true c28
                                        have c28b1 : decide (x6_3 ≤ (a0.size : Int)) = true := decide_eq_true c28
                                        clear c28
                                        replace H := Option.bind_eq_some_iff.mp H
                                        obtain ⟨t120, A290, H⟩ := H
                                        replace H : (if t120 = true then (if x5_1.length < 4398046511104 then (windlassref5_Tokens.l0 k3 a0 (x5_1 ++ [(⟨2, a0.extract (x6_1 : Int).toNat (x6_3 : Int).toNat, x6_1⟩ : S28)]) x6_3) else (none)) else (if x5_1.length < 4398046511104 then (windlassref5_Tokens.l0 k3 a0 (x5_1 ++ [(⟨1, a0.extract (x6_1 : Int).toNat (x6_3 : Int).toNat, x6_1⟩ : S28)]) x6_3) else (none))) = some (r1, r2, r3) := H
                                        have A29 := Aside0.mk A290
                                        clear A290
                                        by_cases c30 : t120 = true
                                        · subst c30
                                          have H1 : (if x5_1.length < 4398046511104 then (windlassref5_Tokens.l0 k3 a0 (x5_1 ++ [(⟨2, a0.extract (x6_1 : Int).toNat (x6_3 : Int).toNat, x6_1⟩ : S28)]) x6_3) else (none)) = some (r1, r2, r3) := by rw [if_pos rfl] at H; exact H
                                          clear H
                                          have H := H1
                                          clear H1
                                          have c31b0 := eq_true (of_decide_eq_true (by first | (with_reducible assumption) | assumption) : 0 ≤ x6_1)
                                          have c32b0 := eq_true (of_decide_eq_true (by first | (with_reducible assumption) | assumption) : x6_1 ≤ x6_3)
                                          have c33b0 := eq_true (of_decide_eq_true (by first | (with_reducible assumption) | assumption) : x6_3 ≤ (a0.size : Int))
                                          by_cases c34 : x5_1.length < 4398046511104
                                          · rw [if_pos c34] at H
                                            have LMc34 := Aside0.mk c34
                                            clear c34
                                            obtain ⟨y121, hy121⟩ : ∃ y_ : List (S28), y_ = (x5_1 ++ [(⟨2, a0.extract (x6_1 : Int).toNat (x6_3 : Int).toNat, x6_1⟩ : S28)]) := ⟨_, rfl⟩
                                            replace H : (windlassref5_Tokens.l0 k3 a0 y121 x6_3) = some (r1, r2, r3) := by first | (rw [hy121]; with_reducible exact H) | (have H2_ := (Option.bind_some _ _).symm.trans H; rw [hy121]; with_reducible exact H2_) | (have H2_ := (Option.bind_some _ _).symm.trans H; with_reducible exact H2_) | with_reducible exact H | (rw [hy121]; exact H) | exact H
                                            have Ny121 := Aside0.mk hy121
                                            clear hy121
                                            have H' := Aside0.mk H
                                            clear H
                                            have p20 : 0 ≤ (x6_3 : Int) := of_decide_eq_true (by first | (with_reducible assumption) | assumption)
                                            have q20 : x6_3 < (a0.size : Int) := of_decide_eq_true (by first | (with_reducible assumption) | assumption)
                                            have hx20 := bt_at a0 x6_3
                                            replace p20 := eq_true p20
                                            replace q20 := eq_true q20
                                            go_wp2_with (first | (go_at_call 32; (with_reducible refine (windlassref5_letter.calls (bt a0 x6_3) false _ A21.out).mono ?_); rintro e w' ⟨rfl, ⟨nd, rfl⟩⟩; have p23 : 0 ≤ (x6_3 : Int) := of_decide_eq_true (by first | (with_reducible assumption) | assumption); have q23 : x6_3 < (a0.size : Int) := of_decide_eq_true (by first | (with_reducible assumption) | assumption); have hx23 := bt_at a0 x6_3; replace p23 := eq_true p23; replace q23 := eq_true q23) | (go_at_call 33; (with_reducible refine (windlassref5_digit.calls (bt a0 x6_3) false _ A24.out).mono ?_); rintro e w' ⟨rfl, ⟨nd, rfl⟩⟩) | ((with_reducible refine gate_callee (f := 34) rfl ?_); refine goesL_ (some 99) rfl rfl Tryd.func34 (by kernel_rfl) rfl #[.string (a0.extract (x6_1 : Int).toNat (x6_3 : Int).toNat)] rfl (by (try simp only [List.map_toArray, List.map_cons, List.map_nil]); first | done | rfl | (simp only [List.length_drop, List.length_take]; rfl)) ?_; (with_reducible refine (windlassref5_isWord.calls k3 (a0.extract (x6_1 : Int).toNat (x6_3 : Int).toNat) true _ A29.out).mono ?_); rintro e w35 ⟨rfl, hb⟩; refine ⟨_, rfl, ?_⟩; have n0_ := Aside0.mk (Kd.R_below (by (with_reducible repeat (first | apply Kd.R_alloc | apply Kd.R_drewN | apply Kd.R_drew)); exact HO_5.out) hb); have n1_ := Aside0.mk (below_step (by repeat (first | (with_reducible first | exact HB.out | apply below_alloc | apply pw_below_drewN | apply below_drew1) | exact HB.out)) hb); clear HO_5; clear HB; have HO_5 := n0_; have HB := n1_; clear n0_ n1_; (try clear hb); (try clear hb2); (try clear hk); (try clear hi)) | ((with_reducible refine gate_builtin (b := .append) (xs := #[.tmp 100, .tmp 108]) rfl ?_); at_builtin; refine Kd.R_append k28 (w0 := w) w.heap.size rfl (.tmp 100) (.tmp 108) 23 28 (.agg #[(.int .i64 0), (.string ⟨#[]⟩), (.int .i64 0)]) 32 rfl Tryd.underlying23 info28 rfl (by decide) (by omega) u5 x5_1 (⟨2, a0.extract (x6_1 : Int).toNat (x6_3 : Int).toNat, x6_1⟩ : S28) [.int .i64 2, .string (a0.extract (x6_1 : Int).toNat (x6_3 : Int).toNat), .int .i64 x6_1] (fun _ => True) (fun _ => False) rfl rfl ?aP (fun _ hk => hk.elim) ?aF ?aO ?aB ?aS ?aL ?_; (case aP => exact k28_mkM _ _ _ (⟨2, a0.extract (x6_1 : Int).toNat (x6_3 : Int).toNat, x6_1⟩ : S28)); (case aB => exact (by repeat (first | (with_reducible first | exact HB.out | apply below_alloc | apply pw_below_drewN | apply below_drew1) | exact HB.out))); (case aF => exact (fun _ _ => trivial)); (case aO => exact (by (with_reducible repeat (first | apply Kd.R_alloc | apply Kd.R_drewN | apply Kd.R_drew)); exact HO_5.out)); (case aS => exact (below_size (by repeat (first | (with_reducible first | exact HB.out | apply below_alloc | apply pw_below_drewN | apply below_drew1) | exact HB.out)))); (case aL => have := LMc34.out; omega); intro v122 w36 ho hb hg hat; rw [← Ny121.out] at ho; have n0_ := Aside0.mk (hb); have n1_ := Aside0.mk (ho); clear HB; clear HO_5; have HB := n0_; have HO123 := n1_; clear n0_ n1_; clear ho hb hg hat))
                                            go_roundg k3
                                            case measure => have := HK1.out; have := HJ5.out; have := HK3.out; omega
                                            case rel => exact ⟨(y121), (x6_3), (by first | rfl | (simp; done) | (simp [*]; done)), H', ⟨by have := HK1.out; have := HJ5.out; have := HK3.out; omega⟩, ⟨by (with_reducible repeat (first | apply Kd.R_alloc | apply Kd.R_drewN | apply Kd.R_drew)); exact HO123.out⟩, ⟨by repeat (first | (with_reducible first | exact HB.out | apply below_alloc | apply pw_below_drewN | apply below_drew1) | exact HB.out)⟩⟩
                                          · rw [if_neg c34] at H
                                            exact absurd H (by simp)
                                        · replace c30 := Bool.eq_false_iff.mpr c30
                                          subst c30
                                          have H1 : (if x5_1.length < 4398046511104 then (windlassref5_Tokens.l0 k3 a0 (x5_1 ++ [(⟨1, a0.extract (x6_1 : Int).toNat (x6_3 : Int).toNat, x6_1⟩ : S28)]) x6_3) else (none)) = some (r1, r2, r3) := by rw [if_neg (show ¬ (false = true) by decide)] at H; exact H
                                          clear H
                                          have H := H1
                                          clear H1
                                          have c37b0 := eq_true (of_decide_eq_true (by first | (with_reducible assumption) | assumption) : 0 ≤ x6_1)
                                          have c38b0 := eq_true (of_decide_eq_true (by first | (with_reducible assumption) | assumption) : x6_1 ≤ x6_3)
                                          have c39b0 := eq_true (of_decide_eq_true (by first | (with_reducible assumption) | assumption) : x6_3 ≤ (a0.size : Int))
                                          by_cases c40 : x5_1.length < 4398046511104
                                          · rw [if_pos c40] at H
                                            have LMc40 := Aside0.mk c40
                                            clear c40
                                            obtain ⟨y124, hy124⟩ : ∃ y_ : List (S28), y_ = (x5_1 ++ [(⟨1, a0.extract (x6_1 : Int).toNat (x6_3 : Int).toNat, x6_1⟩ : S28)]) := ⟨_, rfl⟩
                                            replace H : (windlassref5_Tokens.l0 k3 a0 y124 x6_3) = some (r1, r2, r3) := by first | (rw [hy124]; with_reducible exact H) | (have H2_ := (Option.bind_some _ _).symm.trans H; rw [hy124]; with_reducible exact H2_) | (have H2_ := (Option.bind_some _ _).symm.trans H; with_reducible exact H2_) | with_reducible exact H | (rw [hy124]; exact H) | exact H
                                            have Ny124 := Aside0.mk hy124
                                            clear hy124
                                            have H' := Aside0.mk H
                                            clear H
                                            have p20 : 0 ≤ (x6_3 : Int) := of_decide_eq_true (by first | (with_reducible assumption) | assumption)
                                            have q20 : x6_3 < (a0.size : Int) := of_decide_eq_true (by first | (with_reducible assumption) | assumption)
                                            have hx20 := bt_at a0 x6_3
                                            replace p20 := eq_true p20
                                            replace q20 := eq_true q20
                                            go_wp2_with (first | (go_at_call 32; (with_reducible refine (windlassref5_letter.calls (bt a0 x6_3) false _ A21.out).mono ?_); rintro e w' ⟨rfl, ⟨nd, rfl⟩⟩; have p23 : 0 ≤ (x6_3 : Int) := of_decide_eq_true (by first | (with_reducible assumption) | assumption); have q23 : x6_3 < (a0.size : Int) := of_decide_eq_true (by first | (with_reducible assumption) | assumption); have hx23 := bt_at a0 x6_3; replace p23 := eq_true p23; replace q23 := eq_true q23) | (go_at_call 33; (with_reducible refine (windlassref5_digit.calls (bt a0 x6_3) false _ A24.out).mono ?_); rintro e w' ⟨rfl, ⟨nd, rfl⟩⟩) | ((with_reducible refine gate_callee (f := 34) rfl ?_); refine goesL_ (some 99) rfl rfl Tryd.func34 (by kernel_rfl) rfl #[.string (a0.extract (x6_1 : Int).toNat (x6_3 : Int).toNat)] rfl (by (try simp only [List.map_toArray, List.map_cons, List.map_nil]); first | done | rfl | (simp only [List.length_drop, List.length_take]; rfl)) ?_; (with_reducible refine (windlassref5_isWord.calls k3 (a0.extract (x6_1 : Int).toNat (x6_3 : Int).toNat) false _ A29.out).mono ?_); rintro e w41 ⟨rfl, hb⟩; refine ⟨_, rfl, ?_⟩; have n0_ := Aside0.mk (Kd.R_below (by (with_reducible repeat (first | apply Kd.R_alloc | apply Kd.R_drewN | apply Kd.R_drew)); exact HO_5.out) hb); have n1_ := Aside0.mk (below_step (by repeat (first | (with_reducible first | exact HB.out | apply below_alloc | apply pw_below_drewN | apply below_drew1) | exact HB.out)) hb); clear HO_5; clear HB; have HO_5 := n0_; have HB := n1_; clear n0_ n1_; (try clear hb); (try clear hb2); (try clear hk); (try clear hi)) | ((with_reducible refine gate_builtin (b := .append) (xs := #[.tmp 100, .tmp 108]) rfl ?_); at_builtin; refine Kd.R_append k28 (w0 := w) w.heap.size rfl (.tmp 100) (.tmp 108) 23 28 (.agg #[(.int .i64 0), (.string ⟨#[]⟩), (.int .i64 0)]) 32 rfl Tryd.underlying23 info28 rfl (by decide) (by omega) u5 x5_1 (⟨1, a0.extract (x6_1 : Int).toNat (x6_3 : Int).toNat, x6_1⟩ : S28) [.int .i64 1, .string (a0.extract (x6_1 : Int).toNat (x6_3 : Int).toNat), .int .i64 x6_1] (fun _ => True) (fun _ => False) rfl rfl ?aP (fun _ hk => hk.elim) ?aF ?aO ?aB ?aS ?aL ?_; (case aP => exact k28_mkM _ _ _ (⟨1, a0.extract (x6_1 : Int).toNat (x6_3 : Int).toNat, x6_1⟩ : S28)); (case aB => exact (by repeat (first | (with_reducible first | exact HB.out | apply below_alloc | apply pw_below_drewN | apply below_drew1) | exact HB.out))); (case aF => exact (fun _ _ => trivial)); (case aO => exact (by (with_reducible repeat (first | apply Kd.R_alloc | apply Kd.R_drewN | apply Kd.R_drew)); exact HO_5.out)); (case aS => exact (below_size (by repeat (first | (with_reducible first | exact HB.out | apply below_alloc | apply pw_below_drewN | apply below_drew1) | exact HB.out)))); (case aL => have := LMc40.out; omega); intro v125 w42 ho hb hg hat; rw [← Ny124.out] at ho; have n0_ := Aside0.mk (hb); have n1_ := Aside0.mk (ho); clear HB; clear HO_5; have HB := n0_; have HO126 := n1_; clear n0_ n1_; clear ho hb hg hat))
                                            go_roundg k3
                                            case measure => have := HK1.out; have := HJ5.out; have := HK3.out; omega
                                            case rel => exact ⟨(y124), (x6_3), (by first | rfl | (simp; done) | (simp [*]; done)), H', ⟨by have := HK1.out; have := HJ5.out; have := HK3.out; omega⟩, ⟨by (with_reducible repeat (first | apply Kd.R_alloc | apply Kd.R_drewN | apply Kd.R_drew)); exact HO126.out⟩, ⟨by repeat (first | (with_reducible first | exact HB.out | apply below_alloc | apply pw_below_drewN | apply below_drew1) | exact HB.out)⟩⟩
                                          · rw [if_neg c40] at H
                                            exact absurd H (by simp)
                                      · rw [if_neg c28] at H
                                        exact absurd H (by simp)
                                    · rw [if_neg c27] at H
                                      exact absurd H (by simp)
                                  · rw [if_neg c26] at H
                                    exact absurd H (by simp)
                            · rw [if_neg c19] at H
                              exact absurd H (by simp)
                          · rw [if_neg c18] at H
                            have c18b0 : decide (x6_3 < (a0.size : Int)) = false := decide_eq_false c18
                            clear c18
                            by_cases c43 : 0 ≤ x6_1
                            · rw [if_pos c43] at H
                              have c43b0 := eq_true c43
                              have c43b1 : decide (0 ≤ x6_1) = true := decide_eq_true c43
                              clear c43
                              by_cases c44 : x6_1 ≤ x6_3
                              · rw [if_pos c44] at H
                                have c44b0 := eq_true c44
                                have c44b1 : decide (x6_1 ≤ x6_3) = true := decide_eq_true c44
                                clear c44
                                by_cases c45 : x6_3 ≤ (a0.size : Int)
                                · rw [if_pos c45] at H
                                  have c45b0 := eq_true c45
                                  have c45b1 : decide (x6_3 ≤ (a0.size : Int)) = true := decide_eq_true c45
                                  clear c45
                                  replace H := Option.bind_eq_some_iff.mp H
                                  obtain ⟨t127, A460, H⟩ := H
                                  replace H : (if t127 = true then (if x5_1.length < 4398046511104 then (windlassref5_Tokens.l0 k3 a0 (x5_1 ++ [(⟨2, a0.extract (x6_1 : Int).toNat (x6_3 : Int).toNat, x6_1⟩ : S28)]) x6_3) else (none)) else (if x5_1.length < 4398046511104 then (windlassref5_Tokens.l0 k3 a0 (x5_1 ++ [(⟨1, a0.extract (x6_1 : Int).toNat (x6_3 : Int).toNat, x6_1⟩ : S28)]) x6_3) else (none))) = some (r1, r2, r3) := H
                                  have A46 := Aside0.mk A460
                                  clear A460
                                  by_cases c47 : t127 = true
                                  · subst c47
                                    have H1 : (if x5_1.length < 4398046511104 then (windlassref5_Tokens.l0 k3 a0 (x5_1 ++ [(⟨2, a0.extract (x6_1 : Int).toNat (x6_3 : Int).toNat, x6_1⟩ : S28)]) x6_3) else (none)) = some (r1, r2, r3) := by rw [if_pos rfl] at H; exact H
                                    clear H
                                    have H := H1
                                    clear H1
                                    have c48b0 := eq_true (of_decide_eq_true (by first | (with_reducible assumption) | assumption) : 0 ≤ x6_1)
                                    have c49b0 := eq_true (of_decide_eq_true (by first | (with_reducible assumption) | assumption) : x6_1 ≤ x6_3)
                                    have c50b0 := eq_true (of_decide_eq_true (by first | (with_reducible assumption) | assumption) : x6_3 ≤ (a0.size : Int))
                                    by_cases c51 : x5_1.length < 4398046511104
                                    · rw [if_pos c51] at H
                                      have LMc51 := Aside0.mk c51
                                      clear c51
                                      obtain ⟨y128, hy128⟩ : ∃ y_ : List (S28), y_ = (x5_1 ++ [(⟨2, a0.extract (x6_1 : Int).toNat (x6_3 : Int).toNat, x6_1⟩ : S28)]) := ⟨_, rfl⟩
                                      replace H : (windlassref5_Tokens.l0 k3 a0 y128 x6_3) = some (r1, r2, r3) := by first | (rw [hy128]; with_reducible exact H) | (have H2_ := (Option.bind_some _ _).symm.trans H; rw [hy128]; with_reducible exact H2_) | (have H2_ := (Option.bind_some _ _).symm.trans H; with_reducible exact H2_) | with_reducible exact H | (rw [hy128]; exact H) | exact H
                                      have Ny128 := Aside0.mk hy128
                                      clear hy128
                                      have H' := Aside0.mk H
                                      clear H
                                      go_wp2_with (first | ((with_reducible refine gate_callee (f := 34) rfl ?_); refine goesL_ (some 99) rfl rfl Tryd.func34 (by kernel_rfl) rfl #[.string (a0.extract (x6_1 : Int).toNat (x6_3 : Int).toNat)] rfl (by (try simp only [List.map_toArray, List.map_cons, List.map_nil]); first | done | rfl | (simp only [List.length_drop, List.length_take]; rfl)) ?_; (with_reducible refine (windlassref5_isWord.calls k3 (a0.extract (x6_1 : Int).toNat (x6_3 : Int).toNat) true _ A46.out).mono ?_); rintro e w52 ⟨rfl, hb⟩; refine ⟨_, rfl, ?_⟩; have n0_ := Aside0.mk (Kd.R_below (by (with_reducible repeat (first | apply Kd.R_alloc | apply Kd.R_drewN | apply Kd.R_drew)); exact HO_5.out) hb); have n1_ := Aside0.mk (below_step (by repeat (first | (with_reducible first | exact HB.out | apply below_alloc | apply pw_below_drewN | apply below_drew1) | exact HB.out)) hb); clear HO_5; clear HB; have HO_5 := n0_; have HB := n1_; clear n0_ n1_; (try clear hb); (try clear hb2); (try clear hk); (try clear hi)) | ((with_reducible refine gate_builtin (b := .append) (xs := #[.tmp 100, .tmp 108]) rfl ?_); at_builtin; refine Kd.R_append k28 (w0 := w) w.heap.size rfl (.tmp 100) (.tmp 108) 23 28 (.agg #[(.int .i64 0), (.string ⟨#[]⟩), (.int .i64 0)]) 32 rfl Tryd.underlying23 info28 rfl (by decide) (by omega) u5 x5_1 (⟨2, a0.extract (x6_1 : Int).toNat (x6_3 : Int).toNat, x6_1⟩ : S28) [.int .i64 2, .string (a0.extract (x6_1 : Int).toNat (x6_3 : Int).toNat), .int .i64 x6_1] (fun _ => True) (fun _ => False) rfl rfl ?aP (fun _ hk => hk.elim) ?aF ?aO ?aB ?aS ?aL ?_; (case aP => exact k28_mkM _ _ _ (⟨2, a0.extract (x6_1 : Int).toNat (x6_3 : Int).toNat, x6_1⟩ : S28)); (case aB => exact (by repeat (first | (with_reducible first | exact HB.out | apply below_alloc | apply pw_below_drewN | apply below_drew1) | exact HB.out))); (case aF => exact (fun _ _ => trivial)); (case aO => exact (by (with_reducible repeat (first | apply Kd.R_alloc | apply Kd.R_drewN | apply Kd.R_drew)); exact HO_5.out)); (case aS => exact (below_size (by repeat (first | (with_reducible first | exact HB.out | apply below_alloc | apply pw_below_drewN | apply below_drew1) | exact HB.out)))); (case aL => have := LMc51.out; omega); intro v129 w53 ho hb hg hat; rw [← Ny128.out] at ho; have n0_ := Aside0.mk (hb); have n1_ := Aside0.mk (ho); clear HB; clear HO_5; have HB := n0_; have HO130 := n1_; clear n0_ n1_; clear ho hb hg hat))
                                      go_roundg k3
                                      case measure => have := HK1.out; have := HJ5.out; have := HK3.out; omega
                                      case rel => exact ⟨(y128), (x6_3), (by first | rfl | (simp; done) | (simp [*]; done)), H', ⟨by have := HK1.out; have := HJ5.out; have := HK3.out; omega⟩, ⟨by (with_reducible repeat (first | apply Kd.R_alloc | apply Kd.R_drewN | apply Kd.R_drew)); exact HO130.out⟩, ⟨by repeat (first | (with_reducible first | exact HB.out | apply below_alloc | apply pw_below_drewN | apply below_drew1) | exact HB.out)⟩⟩
                                    · rw [if_neg c51] at H
                                      exact absurd H (by simp)
                                  · replace c47 := Bool.eq_false_iff.mpr c47
                                    subst c47
                                    have H1 : (if x5_1.length < 4398046511104 then (windlassref5_Tokens.l0 k3 a0 (x5_1 ++ [(⟨1, a0.extract (x6_1 : Int).toNat (x6_3 : Int).toNat, x6_1⟩ : S28)]) x6_3) else (none)) = some (r1, r2, r3) := by rw [if_neg (show ¬ (false = true) by decide)] at H; exact H
                                    clear H
                                    have H := H1
                                    clear H1
                                    have c54b0 := eq_true (of_decide_eq_true (by first | (with_reducible assumption) | assumption) : 0 ≤ x6_1)
                                    have c55b0 := eq_true (of_decide_eq_true (by first | (with_reducible assumption) | assumption) : x6_1 ≤ x6_3)
                                    have c56b0 := eq_true (of_decide_eq_true (by first | (with_reducible assumption) | assumption) : x6_3 ≤ (a0.size : Int))
                                    by_cases c57 : x5_1.length < 4398046511104
                                    · rw [if_pos c57] at H
                                      have LMc57 := Aside0.mk c57
                                      clear c57
                                      obtain ⟨y131, hy131⟩ : ∃ y_ : List (S28), y_ = (x5_1 ++ [(⟨1, a0.extract (x6_1 : Int).toNat (x6_3 : Int).toNat, x6_1⟩ : S28)]) := ⟨_, rfl⟩
                                      replace H : (windlassref5_Tokens.l0 k3 a0 y131 x6_3) = some (r1, r2, r3) := by first | (rw [hy131]; with_reducible exact H) | (have H2_ := (Option.bind_some _ _).symm.trans H; rw [hy131]; with_reducible exact H2_) | (have H2_ := (Option.bind_some _ _).symm.trans H; with_reducible exact H2_) | with_reducible exact H | (rw [hy131]; exact H) | exact H
                                      have Ny131 := Aside0.mk hy131
                                      clear hy131
                                      have H' := Aside0.mk H
                                      clear H
                                      go_wp2_with (first | ((with_reducible refine gate_callee (f := 34) rfl ?_); refine goesL_ (some 99) rfl rfl Tryd.func34 (by kernel_rfl) rfl #[.string (a0.extract (x6_1 : Int).toNat (x6_3 : Int).toNat)] rfl (by (try simp only [List.map_toArray, List.map_cons, List.map_nil]); first | done | rfl | (simp only [List.length_drop, List.length_take]; rfl)) ?_; (with_reducible refine (windlassref5_isWord.calls k3 (a0.extract (x6_1 : Int).toNat (x6_3 : Int).toNat) false _ A46.out).mono ?_); rintro e w58 ⟨rfl, hb⟩; refine ⟨_, rfl, ?_⟩; have n0_ := Aside0.mk (Kd.R_below (by (with_reducible repeat (first | apply Kd.R_alloc | apply Kd.R_drewN | apply Kd.R_drew)); exact HO_5.out) hb); have n1_ := Aside0.mk (below_step (by repeat (first | (with_reducible first | exact HB.out | apply below_alloc | apply pw_below_drewN | apply below_drew1) | exact HB.out)) hb); clear HO_5; clear HB; have HO_5 := n0_; have HB := n1_; clear n0_ n1_; (try clear hb); (try clear hb2); (try clear hk); (try clear hi)) | ((with_reducible refine gate_builtin (b := .append) (xs := #[.tmp 100, .tmp 108]) rfl ?_); at_builtin; refine Kd.R_append k28 (w0 := w) w.heap.size rfl (.tmp 100) (.tmp 108) 23 28 (.agg #[(.int .i64 0), (.string ⟨#[]⟩), (.int .i64 0)]) 32 rfl Tryd.underlying23 info28 rfl (by decide) (by omega) u5 x5_1 (⟨1, a0.extract (x6_1 : Int).toNat (x6_3 : Int).toNat, x6_1⟩ : S28) [.int .i64 1, .string (a0.extract (x6_1 : Int).toNat (x6_3 : Int).toNat), .int .i64 x6_1] (fun _ => True) (fun _ => False) rfl rfl ?aP (fun _ hk => hk.elim) ?aF ?aO ?aB ?aS ?aL ?_; (case aP => exact k28_mkM _ _ _ (⟨1, a0.extract (x6_1 : Int).toNat (x6_3 : Int).toNat, x6_1⟩ : S28)); (case aB => exact (by repeat (first | (with_reducible first | exact HB.out | apply below_alloc | apply pw_below_drewN | apply below_drew1) | exact HB.out))); (case aF => exact (fun _ _ => trivial)); (case aO => exact (by (with_reducible repeat (first | apply Kd.R_alloc | apply Kd.R_drewN | apply Kd.R_drew)); exact HO_5.out)); (case aS => exact (below_size (by repeat (first | (with_reducible first | exact HB.out | apply below_alloc | apply pw_below_drewN | apply below_drew1) | exact HB.out)))); (case aL => have := LMc57.out; omega); intro v132 w59 ho hb hg hat; rw [← Ny131.out] at ho; have n0_ := Aside0.mk (hb); have n1_ := Aside0.mk (ho); clear HB; clear HO_5; have HB := n0_; have HO133 := n1_; clear n0_ n1_; clear ho hb hg hat))
                                      go_roundg k3
                                      case measure => have := HK1.out; have := HJ5.out; have := HK3.out; omega
                                      case rel => exact ⟨(y131), (x6_3), (by first | rfl | (simp; done) | (simp [*]; done)), H', ⟨by have := HK1.out; have := HJ5.out; have := HK3.out; omega⟩, ⟨by (with_reducible repeat (first | apply Kd.R_alloc | apply Kd.R_drewN | apply Kd.R_drew)); exact HO133.out⟩, ⟨by repeat (first | (with_reducible first | exact HB.out | apply below_alloc | apply pw_below_drewN | apply below_drew1) | exact HB.out)⟩⟩
                                    · rw [if_neg c57] at H
                                      exact absurd H (by simp)
                                · rw [if_neg c45] at H
                                  exact absurd H (by simp)
                              · rw [if_neg c44] at H
                                exact absurd H (by simp)
                            · rw [if_neg c43] at H
                              exact absurd H (by simp)
                    · replace c17 := Bool.eq_false_iff.mpr c17
                      subst c17
                      have H1 : ((windlassref5_digit.f (bt a0 x6_1)).bind fun t134 => (if t134 = true then (windlassref5_Tokens.l3 kj5 a0 x5_1 x6_1 x6_1) else (if (bt a0 x6_1) = 34 then ((windlassref5_text.f kj5 a0 x6_1).bind fun bt142 => (if bt142.2.2 = true then (if x5_1.length < 4398046511104 then (windlassref5_Tokens.l0 kj5 a0 (x5_1 ++ [(⟨4, bt142.1, x6_1⟩ : S28)]) bt142.2.1) else (none)) else (some (([] : List (S28)), x6_1, 52)))) else ((windlassref5_sign.f a0 x6_1).bind fun t148 => (if t148.toList = ([] : List UInt8) then (some (([] : List (S28)), x6_1, 51)) else (if x5_1.length < 4398046511104 then (windlassref5_Tokens.l0 kj5 a0 (x5_1 ++ [(⟨5, t148, x6_1⟩ : S28)]) (wrap64 (x6_1 + (t148.size : Int)))) else (none))))))) = some (r1, r2, r3) := by rw [if_neg (show ¬ (false = true) by decide)] at H; exact H
                      clear H
                      have H := H1
                      clear H1
                      replace H := Option.bind_eq_some_iff.mp H
                      obtain ⟨t134, A600, H⟩ := H
                      replace H : (if t134 = true then (windlassref5_Tokens.l3 kj5 a0 x5_1 x6_1 x6_1) else (if (bt a0 x6_1) = 34 then ((windlassref5_text.f kj5 a0 x6_1).bind fun bt142 => (if bt142.2.2 = true then (if x5_1.length < 4398046511104 then (windlassref5_Tokens.l0 kj5 a0 (x5_1 ++ [(⟨4, bt142.1, x6_1⟩ : S28)]) bt142.2.1) else (none)) else (some (([] : List (S28)), x6_1, 52)))) else ((windlassref5_sign.f a0 x6_1).bind fun t148 => (if t148.toList = ([] : List UInt8) then (some (([] : List (S28)), x6_1, 51)) else (if x5_1.length < 4398046511104 then (windlassref5_Tokens.l0 kj5 a0 (x5_1 ++ [(⟨5, t148, x6_1⟩ : S28)]) (wrap64 (x6_1 + (t148.size : Int)))) else (none)))))) = some (r1, r2, r3) := H
                      have A60 := Aside0.mk A600
                      clear A600
                      by_cases c61 : t134 = true
                      · subst c61
                        have H1 : (windlassref5_Tokens.l3 kj5 a0 x5_1 x6_1 x6_1) = some (r1, r2, r3) := by rw [if_pos rfl] at H; exact H
                        clear H
                        have H := H1
                        clear H1
                        have HC62 := Aside0.mk H
                        clear H
                        go_upto_block 7 with (first | ((with_reducible refine gate_callee (f := 32) rfl ?_); refine goesL_ (some 76) rfl rfl Tryd.func32 (by kernel_rfl) rfl #[.int .u8 (bt a0 x6_1)] rfl (by (try simp only [List.map_toArray, List.map_cons, List.map_nil]); first | done | rfl | (simp only [List.length_drop, List.length_take]; rfl)) ?_; (with_reducible refine (windlassref5_letter.calls (bt a0 x6_1) false _ A16.out).mono ?_); rintro e w' ⟨rfl, ⟨nd, rfl⟩⟩; refine ⟨_, rfl, ?_⟩) | ((with_reducible refine gate_callee (f := 33) rfl ?_); refine goesL_ (some 112) rfl rfl Tryd.func33 (by kernel_rfl) rfl #[.int .u8 (bt a0 x6_1)] rfl (by (try simp only [List.map_toArray, List.map_cons, List.map_nil]); first | done | rfl | (simp only [List.length_drop, List.length_take]; rfl)) ?_; (with_reducible refine (windlassref5_digit.calls (bt a0 x6_1) true _ A60.out).mono ?_); rintro e w' ⟨rfl, ⟨nd, rfl⟩⟩; refine ⟨_, rfl, ?_⟩))
                        (try simp only [Act.put, List.setIfInBounds_toArray, List.set_cons_zero, List.set_cons_succ])
                        go_cut [6] (fun v6 wc => ∃ (kq : Nat) (x6_61 : Int), v6 = .int .i64 x6_61 ∧ Aside0 (windlassref5_Tokens.j5 kq a0 x5_1 x6_61 x6_1 = some (r1, r2, r3)) ∧ Aside0 (kq ≤ kj5) ∧ Aside0 (Kd.R k28 28 wc w.heap.size (fun _ => True) u5 x5_1) ∧ Aside0 (Below w.heap.size w wc))
                        case first =>
                          have H := HC62.out
                          clear HC62
                          have H' := Aside0.mk H
                          clear H
                          go_wp2
                          go_loopg [6] kj5 (fun kq v6 w' => ∃ (x6_3 : Int), v6 = .int .i64 x6_3 ∧ Aside0 (windlassref5_Tokens.l3 kq a0 x5_1 x6_3 x6_1 = some (r1, r2, r3)) ∧ Aside0 (kq ≤ kj5) ∧ Aside0 (Kd.R k28 28 w' w.heap.size (fun _ => True) u5 x5_1) ∧ Aside0 (Below w.heap.size w w'))
                          case atStart => exact ⟨(x6_1), (by first | rfl | (simp; done) | (simp [*]; done)), H', ⟨Nat.le_refl _⟩, ⟨by (with_reducible repeat (first | apply Kd.R_alloc | apply Kd.R_drewN | apply Kd.R_drew)); exact HO_5.out⟩, ⟨by repeat (first | (with_reducible first | exact HB.out | apply below_alloc | apply pw_below_drewN | apply below_drew1) | exact HB.out)⟩⟩
                          case round =>
                            clear H'
                            try clear c1
                            try clear p1
                            try clear q1
                            try clear hx1
                            try clear c2
                            try clear c2b0
                            try clear c2b1
                            try clear p2
                            try clear q2
                            try clear hx2
                            try clear c3
                            try clear c3b0
                            try clear c4
                            try clear c4b0
                            try clear c5
                            try clear p5
                            try clear q5
                            try clear hx5
                            try clear c6
                            try clear p6
                            try clear c7
                            try clear c7b0
                            try clear c7b1
                            try clear c8
                            try clear c8b0
                            try clear c8b1
                            try clear c9
                            try clear c9b0
                            try clear c9b1
                            try clear c10
                            try clear c11
                            try clear c11b0
                            try clear c11b1
                            try clear c12
                            try clear c12b0
                            try clear c13
                            try clear c13b0
                            try clear p14
                            try clear q14
                            try clear hx14
                            try clear c15
                            try clear c15b0
                            try clear c15b1
                            try clear c17
                            try clear c18
                            try clear c18b0
                            try clear c19
                            try clear c19b0
                            try clear p20
                            try clear q20
                            try clear hx20
                            try clear c22
                            try clear p23
                            try clear q23
                            try clear hx23
                            try clear c25
                            try clear c26
                            try clear c26b0
                            try clear c26b1
                            try clear c27
                            try clear c27b0
                            try clear c27b1
                            try clear c28
                            try clear c28b0
                            try clear c28b1
                            try clear c30
                            try clear c31
                            try clear c31b0
                            try clear c32
                            try clear c32b0
                            try clear c33
                            try clear c33b0
                            try clear c34
                            try clear c37
                            try clear c37b0
                            try clear c38
                            try clear c38b0
                            try clear c39
                            try clear c39b0
                            try clear c40
                            try clear c43
                            try clear c43b0
                            try clear c43b1
                            try clear c44
                            try clear c44b0
                            try clear c44b1
                            try clear c45
                            try clear c45b0
                            try clear c45b1
                            try clear c47
                            try clear c48
                            try clear c48b0
                            try clear c49
                            try clear c49b0
                            try clear c50
                            try clear c50b0
                            try clear c51
                            try clear c54
                            try clear c54b0
                            try clear c55
                            try clear c55b0
                            try clear c56
                            try clear c56b0
                            try clear c57
                            try clear c61
                            try clear p1
                            try clear p14
                            try clear p2
                            try clear p20
                            try clear p23
                            try clear p5
                            try clear p6
                            try clear q1
                            try clear q14
                            try clear q20
                            try clear q23
                            try clear q5
                            obtain ⟨x6_3, rfl, HA, HK3, HO_5, HB⟩ := hrel
                            cases gk with
                            | zero => exact absurd HA.out (by simp [windlassref5_Tokens.l3])
                            | succ k3 =>
                              have H := HA.out
                              clear HA
                              simp only [windlassref5_Tokens.l3] at H
                              by_cases c63 : x6_3 < (a0.size : Int)
                              · rw [if_pos c63] at H
                                have c63b0 : decide (x6_3 < (a0.size : Int)) = true := decide_eq_true c63
                                clear c63
                                (first | rw [c63b0] | (simp only [i64_w, i32_w]; rw [c63b0]) | skip)
                                by_cases c64 : 0 ≤ x6_3
                                · rw [if_pos c64] at H
                                  have c64b0 : decide (0 ≤ x6_3) = true := decide_eq_true c64
                                  clear c64
                                  replace H := Option.bind_eq_some_iff.mp H
                                  obtain ⟨t135, A660, H⟩ := H
                                  replace H : (if t135 = true then (windlassref5_Tokens.l3 k3 a0 x5_1 (wrap64 (x6_3 + 1)) x6_1) else (windlassref5_Tokens.j5 k3 a0 x5_1 x6_3 x6_1)) = some (r1, r2, r3) := H
                                  have A66 := Aside0.mk A660
                                  clear A660
                                  by_cases c67 : t135 = true
                                  · subst c67
                                    have H1 : (windlassref5_Tokens.l3 k3 a0 x5_1 (wrap64 (x6_3 + 1)) x6_1) = some (r1, r2, r3) := by rw [if_pos rfl] at H; exact H
                                    clear H
                                    have H := H1
                                    clear H1
                                    have H' := Aside0.mk H
                                    clear H
                                    have p65 : 0 ≤ (x6_3 : Int) := of_decide_eq_true (by first | (with_reducible assumption) | assumption)
                                    have q65 : x6_3 < (a0.size : Int) := of_decide_eq_true (by first | (with_reducible assumption) | assumption)
                                    have hx65 := bt_at a0 x6_3
                                    replace p65 := eq_true p65
                                    replace q65 := eq_true q65
                                    go_wp2_with (first | (go_at_call 33; (with_reducible refine (windlassref5_digit.calls (bt a0 x6_3) true _ A66.out).mono ?_); rintro e w' ⟨rfl, ⟨nd, rfl⟩⟩))
                                    go_roundg k3
                                    case measure => have := HK1.out; have := HJ5.out; have := HK3.out; omega
                                    case rel => exact ⟨(wrap64 (x6_3 + 1)), (by first | rfl | (simp; done) | (simp [*]; done)), H', ⟨by have := HK1.out; have := HJ5.out; have := HK3.out; omega⟩, ⟨by (with_reducible repeat (first | apply Kd.R_alloc | apply Kd.R_drewN | apply Kd.R_drew)); exact HO_5.out⟩, ⟨by repeat (first | (with_reducible first | exact HB.out | apply below_alloc | apply pw_below_drewN | apply below_drew1) | exact HB.out)⟩⟩
                                  · replace c67 := Bool.eq_false_iff.mpr c67
                                    subst c67
                                    have H1 : (windlassref5_Tokens.j5 k3 a0 x5_1 x6_3 x6_1) = some (r1, r2, r3) := by rw [if_neg (show ¬ (false = true) by decide)] at H; exact H
                                    clear H
                                    have H := H1
                                    clear H1
                                    have H' := Aside0.mk H
                                    clear H
                                    have p65 : 0 ≤ (x6_3 : Int) := of_decide_eq_true (by first | (with_reducible assumption) | assumption)
                                    have q65 : x6_3 < (a0.size : Int) := of_decide_eq_true (by first | (with_reducible assumption) | assumption)
                                    have hx65 := bt_at a0 x6_3
                                    replace p65 := eq_true p65
                                    replace q65 := eq_true q65
                                    go_wp2_with (first | (go_at_call 33; (with_reducible refine (windlassref5_digit.calls (bt a0 x6_3) false _ A66.out).mono ?_); rintro e w' ⟨rfl, ⟨nd, rfl⟩⟩))
                                    go_meet
                                    case rel => exact ⟨_, (x6_3), (by first | rfl | (simp; done) | (simp [*]; done)), H', ⟨by have := HK1.out; have := HJ5.out; have := HK3.out; first | omega | exact Nat.le_refl _⟩, ⟨by (with_reducible repeat (first | apply Kd.R_alloc | apply Kd.R_drewN | apply Kd.R_drew)); exact HO_5.out⟩, ⟨by repeat (first | (with_reducible first | exact HB.out | apply below_alloc | apply pw_below_drewN | apply below_drew1) | exact HB.out)⟩⟩
                                · rw [if_neg c64] at H
                                  exact absurd H (by simp)
                              · rw [if_neg c63] at H
                                have c63b0 : decide (x6_3 < (a0.size : Int)) = false := decide_eq_false c63
                                clear c63
                                (first | rw [c63b0] | (simp only [i64_w, i32_w]; rw [c63b0]) | skip)
                                have H' := Aside0.mk H
                                clear H
                                go_wp2
                                go_meet
                                case rel => exact ⟨_, (x6_3), (by first | rfl | (simp; done) | (simp [*]; done)), H', ⟨by have := HK1.out; have := HJ5.out; have := HK3.out; first | omega | exact Nat.le_refl _⟩, ⟨by (with_reducible repeat (first | apply Kd.R_alloc | apply Kd.R_drewN | apply Kd.R_drew)); exact HO_5.out⟩, ⟨by repeat (first | (with_reducible first | exact HB.out | apply below_alloc | apply pw_below_drewN | apply below_drew1) | exact HB.out)⟩⟩
                        case rest =>
                          clear HC62
                          try clear c1
                          try clear p1
                          try clear q1
                          try clear hx1
                          try clear c2
                          try clear c2b0
                          try clear c2b1
                          try clear p2
                          try clear q2
                          try clear hx2
                          try clear c3
                          try clear c3b0
                          try clear c4
                          try clear c4b0
                          try clear c5
                          try clear p5
                          try clear q5
                          try clear hx5
                          try clear c6
                          try clear p6
                          try clear q6
                          try clear hx6
                          try clear c7
                          try clear c7b0
                          try clear c7b1
                          try clear c8
                          try clear c8b0
                          try clear c8b1
                          try clear c9
                          try clear c9b0
                          try clear c9b1
                          try clear c10
                          try clear c11
                          try clear c11b0
                          try clear c11b1
                          try clear c12
                          try clear c12b0
                          try clear c13
                          try clear c13b0
                          try clear p14
                          try clear q14
                          try clear hx14
                          try clear c15
                          try clear c15b0
                          try clear c15b1
                          try clear c17
                          try clear c18
                          try clear c18b0
                          try clear c19
                          try clear c19b0
                          try clear p20
                          try clear q20
                          try clear hx20
                          try clear c22
                          try clear p23
                          try clear q23
                          try clear hx23
                          try clear c25
                          try clear c26
                          try clear c26b0
                          try clear c26b1
                          try clear c27
                          try clear c27b0
                          try clear c27b1
                          try clear c28
                          try clear c28b0
                          try clear c28b1
                          try clear c30
                          try clear c31
                          try clear c31b0
                          try clear c32
                          try clear c32b0
                          try clear c33
                          try clear c33b0
                          try clear c34
                          try clear c37
                          try clear c37b0
                          try clear c38
                          try clear c38b0
                          try clear c39
                          try clear c39b0
                          try clear c40
                          try clear c43
                          try clear c43b0
                          try clear c43b1
                          try clear c44
                          try clear c44b0
                          try clear c44b1
                          try clear c45
                          try clear c45b0
                          try clear c45b1
                          try clear c47
                          try clear c48
                          try clear c48b0
                          try clear c49
                          try clear c49b0
                          try clear c50
                          try clear c50b0
                          try clear c51
                          try clear c54
                          try clear c54b0
                          try clear c55
                          try clear c55b0
                          try clear c56
                          try clear c56b0
                          try clear c57
                          try clear c61
                          try clear c63
                          try clear c63b0
                          try clear c64
                          try clear c64b0
                          try clear p64
                          try clear p65
                          try clear q65
                          try clear hx65
                          try clear c67
                          try clear p1
                          try clear p14
                          try clear p2
                          try clear p20
                          try clear p23
                          try clear p5
                          try clear p6
                          try clear p65
                          try clear q1
                          try clear q14
                          try clear q2
                          try clear q20
                          try clear q23
                          try clear q5
                          try clear q65
                          obtain ⟨kq, x6_61, rfl, HA, HJ61, HO_5, HB⟩ := hcut
                          cases kq with
                          | zero => exact absurd HA.out (by simp [windlassref5_Tokens.j5])
                          | succ kj61 =>
                            have H := HA.out
                            clear HA
                            simp only [windlassref5_Tokens.j5] at H
                            have H' := Aside0.mk H
                            clear H
                            go_wp2
                            go_loopg [10] kj61 (fun kq v10 w' => ∃ (x10_4 : Int), v10 = .int .i64 x10_4 ∧ Aside0 (windlassref5_Tokens.l4 kq a0 x5_1 x6_61 x6_1 x10_4 = some (r1, r2, r3)) ∧ Aside0 (kq ≤ kj61) ∧ Aside0 (Kd.R k28 28 w' w.heap.size (fun _ => True) u5 x5_1) ∧ Aside0 (Below w.heap.size w w'))
                            case atStart => exact ⟨(x6_1), (by first | rfl | (simp; done) | (simp [*]; done)), H', ⟨Nat.le_refl _⟩, ⟨by (with_reducible repeat (first | apply Kd.R_alloc | apply Kd.R_drewN | apply Kd.R_drew)); exact HO_5.out⟩, ⟨by repeat (first | (with_reducible first | exact HB.out | apply below_alloc | apply pw_below_drewN | apply below_drew1) | exact HB.out)⟩⟩
                            case round =>
                              clear H'
                              try clear c1
                              try clear p1
                              try clear q1
                              try clear hx1
                              try clear c2
                              try clear c2b0
                              try clear c2b1
                              try clear p2
                              try clear q2
                              try clear hx2
                              try clear c3
                              try clear c3b0
                              try clear c4
                              try clear c4b0
                              try clear c5
                              try clear p5
                              try clear q5
                              try clear hx5
                              try clear c6
                              try clear p6
                              try clear q6
                              try clear hx6
                              try clear c7
                              try clear c7b0
                              try clear c7b1
                              try clear c8
                              try clear c8b0
                              try clear c8b1
                              try clear c9
                              try clear c9b0
                              try clear c9b1
                              try clear c10
                              try clear c11
                              try clear c11b0
                              try clear c11b1
                              try clear c12
                              try clear c12b0
                              try clear c13
                              try clear c13b0
                              try clear p14
                              try clear q14
                              try clear hx14
                              try clear c15
                              try clear c15b0
                              try clear c15b1
                              try clear c17
                              try clear c18
                              try clear c18b0
                              try clear c19
                              try clear c19b0
                              try clear p20
                              try clear q20
                              try clear hx20
                              try clear c22
                              try clear p23
                              try clear q23
                              try clear hx23
                              try clear c25
                              try clear c26
                              try clear c26b0
                              try clear c26b1
                              try clear c27
                              try clear c27b0
                              try clear c27b1
                              try clear c28
                              try clear c28b0
                              try clear c28b1
                              try clear c30
                              try clear c31
                              try clear c31b0
                              try clear c32
                              try clear c32b0
                              try clear c33
                              try clear c33b0
                              try clear c34
                              try clear c37
                              try clear c37b0
                              try clear c38
                              try clear c38b0
                              try clear c39
                              try clear c39b0
                              try clear c40
                              try clear c43
                              try clear c43b0
                              try clear c43b1
                              try clear c44
                              try clear c44b0
                              try clear c44b1
                              try clear c45
                              try clear c45b0
                              try clear c45b1
                              try clear c47
                              try clear c48
                              try clear c48b0
                              try clear c49
                              try clear c49b0
                              try clear c50
                              try clear c50b0
                              try clear c51
                              try clear c54
                              try clear c54b0
                              try clear c55
                              try clear c55b0
                              try clear c56
                              try clear c56b0
                              try clear c57
                              try clear c61
                              try clear c63
                              try clear c63b0
                              try clear c64
                              try clear c64b0
                              try clear p64
                              try clear p65
                              try clear q65
                              try clear hx65
                              try clear c67
                              try clear p1
                              try clear p14
                              try clear p2
                              try clear p20
                              try clear p23
                              try clear p5
                              try clear p6
                              try clear p64
                              try clear p65
                              try clear q1
                              try clear q14
                              try clear q2
                              try clear q20
                              try clear q23
                              try clear q5
                              try clear q6
                              try clear q65
                              obtain ⟨x10_4, rfl, HA, HK4, HO_5, HB⟩ := hrel
                              cases gk with
                              | zero => exact absurd HA.out (by simp [windlassref5_Tokens.l4])
                              | succ k4 =>
                                have H := HA.out
                                clear HA
                                simp only [windlassref5_Tokens.l4] at H
                                by_cases c68 : (wrap64 (x10_4 + 1)) < x6_61
                                · rw [if_pos c68] at H
                                  have c68b0 : decide ((wrap64 (x10_4 + 1)) < x6_61) = true := decide_eq_true c68
                                  clear c68
                                  by_cases c69 : 0 ≤ x10_4
                                  · rw [if_pos c69] at H
                                    have c69b0 : decide (0 ≤ x10_4) = true := decide_eq_true c69
                                    clear c69
                                    by_cases c70 : x10_4 < (a0.size : Int)
                                    · rw [if_pos c70] at H
                                      have c70b0 : decide (x10_4 < (a0.size : Int)) = true := decide_eq_true c70
                                      clear c70
                                      by_cases c72 : (bt a0 x10_4) = 48
                                      · rw [if_pos c72] at H
                                        have c72b0 : ((bt a0 x10_4) == 48) = true := beq_iff_eq.mpr c72
                                        have c72b1 : ((bt a0 x10_4) != 48) = false := bne_eq_false_iff_eq.mpr c72
                                        clear c72
                                        have H' := Aside0.mk H
                                        clear H
                                        have p71 : 0 ≤ (x10_4 : Int) := of_decide_eq_true (by first | (with_reducible assumption) | assumption)
                                        have q71 : x10_4 < (a0.size : Int) := of_decide_eq_true (by first | (with_reducible assumption) | assumption)
                                        have hx71 := bt_at a0 x10_4
                                        replace p71 := eq_true p71
                                        replace q71 := eq_true q71
                                        go_wp2
                                        go_roundg k4
                                        case measure => have := HK1.out; have := HJ5.out; have := HJ61.out; have := HK4.out; omega
                                        case rel => exact ⟨(wrap64 (x10_4 + 1)), (by first | rfl | (simp; done) | (simp [*]; done)), H', ⟨by have := HK1.out; have := HJ5.out; have := HJ61.out; have := HK4.out; omega⟩, ⟨by (with_reducible repeat (first | apply Kd.R_alloc | apply Kd.R_drewN | apply Kd.R_drew)); exact HO_5.out⟩, ⟨by repeat (first | (with_reducible first | exact HB.out | apply below_alloc | apply pw_below_drewN | apply below_drew1) | exact HB.out)⟩⟩
                                      · rw [if_neg c72] at H
                                        have c72b0 : ((bt a0 x10_4) == 48) = false := beq_eq_false_iff_ne.mpr c72
                                        have c72b1 : ((bt a0 x10_4) != 48) = true := bne_iff_ne.mpr c72
                                        have c73b0 := eq_true (of_decide_eq_true (by first | (with_reducible assumption) | assumption) : 0 ≤ x10_4)
                                        by_cases c74 : x10_4 ≤ x6_61
                                        · rw [if_pos c74] at H
                                          have c74b0 := eq_true c74
                                          have c74b1 : decide (x10_4 ≤ x6_61) = true := decide_eq_true c74
                                          clear c74
                                          by_cases c75 : x6_61 ≤ (a0.size : Int)
                                          · rw [if_pos c75] at H
                                            have c75b0 := eq_true c75
                                            have c75b1 : decide (x6_61 ≤ (a0.size : Int)) = true := decide_eq_true c75
                                            clear c75
                                            by_cases c76 : x5_1.length < 4398046511104
                                            · rw [if_pos c76] at H
                                              have LMc76 := Aside0.mk c76
                                              clear c76
                                              obtain ⟨y136, hy136⟩ : ∃ y_ : List (S28), y_ = (x5_1 ++ [(⟨3, a0.extract (x10_4 : Int).toNat (x6_61 : Int).toNat, x6_1⟩ : S28)]) := ⟨_, rfl⟩
                                              replace H : (windlassref5_Tokens.l0 k4 a0 y136 x6_61) = some (r1, r2, r3) := by first | (rw [hy136]; with_reducible exact H) | (have H2_ := (Option.bind_some _ _).symm.trans H; rw [hy136]; with_reducible exact H2_) | (have H2_ := (Option.bind_some _ _).symm.trans H; with_reducible exact H2_) | with_reducible exact H | (rw [hy136]; exact H) | exact H
                                              have Ny136 := Aside0.mk hy136
                                              clear hy136
                                              have H' := Aside0.mk H
                                              clear H
                                              have p71 : 0 ≤ (x10_4 : Int) := of_decide_eq_true (by first | (with_reducible assumption) | assumption)
                                              have q71 : x10_4 < (a0.size : Int) := of_decide_eq_true (by first | (with_reducible assumption) | assumption)
                                              have hx71 := bt_at a0 x10_4
                                              replace p71 := eq_true p71
                                              replace q71 := eq_true q71
                                              go_wp2_with (first | ((with_reducible refine gate_builtin (b := .append) (xs := #[.tmp 138, .tmp 145]) rfl ?_); at_builtin; refine Kd.R_append k28 (w0 := w) w.heap.size rfl (.tmp 138) (.tmp 145) 23 28 (.agg #[(.int .i64 0), (.string ⟨#[]⟩), (.int .i64 0)]) 32 rfl Tryd.underlying23 info28 rfl (by decide) (by omega) u5 x5_1 (⟨3, a0.extract (x10_4 : Int).toNat (x6_61 : Int).toNat, x6_1⟩ : S28) [.int .i64 3, .string (a0.extract (x10_4 : Int).toNat (x6_61 : Int).toNat), .int .i64 x6_1] (fun _ => True) (fun _ => False) rfl rfl ?aP (fun _ hk => hk.elim) ?aF ?aO ?aB ?aS ?aL ?_; (case aP => exact k28_mkM _ _ _ (⟨3, a0.extract (x10_4 : Int).toNat (x6_61 : Int).toNat, x6_1⟩ : S28)); (case aB => exact (by repeat (first | (with_reducible first | exact HB.out | apply below_alloc | apply pw_below_drewN | apply below_drew1) | exact HB.out))); (case aF => exact (fun _ _ => trivial)); (case aO => exact (by (with_reducible repeat (first | apply Kd.R_alloc | apply Kd.R_drewN | apply Kd.R_drew)); exact HO_5.out)); (case aS => exact (below_size (by repeat (first | (with_reducible first | exact HB.out | apply below_alloc | apply pw_below_drewN | apply below_drew1) | exact HB.out)))); (case aL => have := LMc76.out; omega); intro v137 w77 ho hb hg hat; rw [← Ny136.out] at ho; have n0_ := Aside0.mk (hb); have n1_ := Aside0.mk (ho); clear HB; clear HO_5; have HB := n0_; have HO138 := n1_; clear n0_ n1_; clear ho hb hg hat))
                                              go_roundg k4
                                              case measure => have := HK1.out; have := HJ5.out; have := HJ61.out; have := HK4.out; omega
                                              case rel => exact ⟨(y136), (x6_61), (by first | rfl | (simp; done) | (simp [*]; done)), H', ⟨by have := HK1.out; have := HJ5.out; have := HJ61.out; have := HK4.out; omega⟩, ⟨by (with_reducible repeat (first | apply Kd.R_alloc | apply Kd.R_drewN | apply Kd.R_drew)); exact HO138.out⟩, ⟨by repeat (first | (with_reducible first | exact HB.out | apply below_alloc | apply pw_below_drewN | apply below_drew1) | exact HB.out)⟩⟩
                                            · rw [if_neg c76] at H
                                              exact absurd H (by simp)
                                          · rw [if_neg c75] at H
                                            exact absurd H (by simp)
                                        · rw [if_neg c74] at H
                                          exact absurd H (by simp)
                                    · rw [if_neg c70] at H
                                      exact absurd H (by simp)
                                  · rw [if_neg c69] at H
                                    exact absurd H (by simp)
                                · rw [if_neg c68] at H
                                  have c68b0 : decide ((wrap64 (x10_4 + 1)) < x6_61) = false := decide_eq_false c68
                                  clear c68
                                  by_cases c78 : 0 ≤ x10_4
                                  · rw [if_pos c78] at H
                                    have c78b0 := eq_true c78
                                    have c78b1 : decide (0 ≤ x10_4) = true := decide_eq_true c78
                                    clear c78
                                    by_cases c79 : x10_4 ≤ x6_61
                                    · rw [if_pos c79] at H
                                      have c79b0 := eq_true c79
                                      have c79b1 : decide (x10_4 ≤ x6_61) = true := decide_eq_true c79
                                      clear c79
                                      by_cases c80 : x6_61 ≤ (a0.size : Int)
                                      · rw [if_pos c80] at H
                                        have c80b0 := eq_true c80
                                        have c80b1 : decide (x6_61 ≤ (a0.size : Int)) = true := decide_eq_true c80
                                        clear c80
                                        by_cases c81 : x5_1.length < 4398046511104
                                        · rw [if_pos c81] at H
                                          have LMc81 := Aside0.mk c81
                                          clear c81
                                          obtain ⟨y139, hy139⟩ : ∃ y_ : List (S28), y_ = (x5_1 ++ [(⟨3, a0.extract (x10_4 : Int).toNat (x6_61 : Int).toNat, x6_1⟩ : S28)]) := ⟨_, rfl⟩
                                          replace H : (windlassref5_Tokens.l0 k4 a0 y139 x6_61) = some (r1, r2, r3) := by first | (rw [hy139]; with_reducible exact H) | (have H2_ := (Option.bind_some _ _).symm.trans H; rw [hy139]; with_reducible exact H2_) | (have H2_ := (Option.bind_some _ _).symm.trans H; with_reducible exact H2_) | with_reducible exact H | (rw [hy139]; exact H) | exact H
                                          have Ny139 := Aside0.mk hy139
                                          clear hy139
                                          have H' := Aside0.mk H
                                          clear H
                                          go_wp2_with (first | ((with_reducible refine gate_builtin (b := .append) (xs := #[.tmp 138, .tmp 145]) rfl ?_); at_builtin; refine Kd.R_append k28 (w0 := w) w.heap.size rfl (.tmp 138) (.tmp 145) 23 28 (.agg #[(.int .i64 0), (.string ⟨#[]⟩), (.int .i64 0)]) 32 rfl Tryd.underlying23 info28 rfl (by decide) (by omega) u5 x5_1 (⟨3, a0.extract (x10_4 : Int).toNat (x6_61 : Int).toNat, x6_1⟩ : S28) [.int .i64 3, .string (a0.extract (x10_4 : Int).toNat (x6_61 : Int).toNat), .int .i64 x6_1] (fun _ => True) (fun _ => False) rfl rfl ?aP (fun _ hk => hk.elim) ?aF ?aO ?aB ?aS ?aL ?_; (case aP => exact k28_mkM _ _ _ (⟨3, a0.extract (x10_4 : Int).toNat (x6_61 : Int).toNat, x6_1⟩ : S28)); (case aB => exact (by repeat (first | (with_reducible first | exact HB.out | apply below_alloc | apply pw_below_drewN | apply below_drew1) | exact HB.out))); (case aF => exact (fun _ _ => trivial)); (case aO => exact (by (with_reducible repeat (first | apply Kd.R_alloc | apply Kd.R_drewN | apply Kd.R_drew)); exact HO_5.out)); (case aS => exact (below_size (by repeat (first | (with_reducible first | exact HB.out | apply below_alloc | apply pw_below_drewN | apply below_drew1) | exact HB.out)))); (case aL => have := LMc81.out; omega); intro v140 w82 ho hb hg hat; rw [← Ny139.out] at ho; have n0_ := Aside0.mk (hb); have n1_ := Aside0.mk (ho); clear HB; clear HO_5; have HB := n0_; have HO141 := n1_; clear n0_ n1_; clear ho hb hg hat))
                                          go_roundg k4
                                          case measure => have := HK1.out; have := HJ5.out; have := HJ61.out; have := HK4.out; omega
                                          case rel => exact ⟨(y139), (x6_61), (by first | rfl | (simp; done) | (simp [*]; done)), H', ⟨by have := HK1.out; have := HJ5.out; have := HJ61.out; have := HK4.out; omega⟩, ⟨by (with_reducible repeat (first | apply Kd.R_alloc | apply Kd.R_drewN | apply Kd.R_drew)); exact HO141.out⟩, ⟨by repeat (first | (with_reducible first | exact HB.out | apply below_alloc | apply pw_below_drewN | apply below_drew1) | exact HB.out)⟩⟩
                                        · rw [if_neg c81] at H
                                          exact absurd H (by simp)
                                      · rw [if_neg c80] at H
                                        exact absurd H (by simp)
                                    · rw [if_neg c79] at H
                                      exact absurd H (by simp)
                                  · rw [if_neg c78] at H
                                    exact absurd H (by simp)
                      · replace c61 := Bool.eq_false_iff.mpr c61
                        subst c61
                        have H1 : (if (bt a0 x6_1) = 34 then ((windlassref5_text.f kj5 a0 x6_1).bind fun bt142 => (if bt142.2.2 = true then (if x5_1.length < 4398046511104 then (windlassref5_Tokens.l0 kj5 a0 (x5_1 ++ [(⟨4, bt142.1, x6_1⟩ : S28)]) bt142.2.1) else (none)) else (some (([] : List (S28)), x6_1, 52)))) else ((windlassref5_sign.f a0 x6_1).bind fun t148 => (if t148.toList = ([] : List UInt8) then (some (([] : List (S28)), x6_1, 51)) else (if x5_1.length < 4398046511104 then (windlassref5_Tokens.l0 kj5 a0 (x5_1 ++ [(⟨5, t148, x6_1⟩ : S28)]) (wrap64 (x6_1 + (t148.size : Int)))) else (none))))) = some (r1, r2, r3) := by rw [if_neg (show ¬ (false = true) by decide)] at H; exact H
                        clear H
                        have H := H1
                        clear H1
                        by_cases c83 : (bt a0 x6_1) = 34
                        · rw [if_pos c83] at H
                          have c83b0 : ((bt a0 x6_1) == 34) = true := beq_iff_eq.mpr c83
                          have c83b1 : ((bt a0 x6_1) != 34) = false := bne_eq_false_iff_eq.mpr c83
                          clear c83
                          replace H := Option.bind_eq_some_iff.mp H
                          obtain ⟨⟨t142, t143, t144⟩, A840, H⟩ := H
                          replace H : (if t144 = true then (if x5_1.length < 4398046511104 then (windlassref5_Tokens.l0 kj5 a0 (x5_1 ++ [(⟨4, t142, x6_1⟩ : S28)]) t143) else (none)) else (some (([] : List (S28)), x6_1, 52))) = some (r1, r2, r3) := H
                          have A84 := Aside0.mk A840
                          clear A840
                          by_cases c85 : t144 = true
                          · subst c85
                            have H1 : (if x5_1.length < 4398046511104 then (windlassref5_Tokens.l0 kj5 a0 (x5_1 ++ [(⟨4, t142, x6_1⟩ : S28)]) t143) else (none)) = some (r1, r2, r3) := by rw [if_pos rfl] at H; exact H
                            clear H
                            have H := H1
                            clear H1
                            by_cases c86 : x5_1.length < 4398046511104
                            · rw [if_pos c86] at H
                              have LMc86 := Aside0.mk c86
                              clear c86
                              obtain ⟨y145, hy145⟩ : ∃ y_ : List (S28), y_ = (x5_1 ++ [(⟨4, t142, x6_1⟩ : S28)]) := ⟨_, rfl⟩
                              replace H : (windlassref5_Tokens.l0 kj5 a0 y145 t143) = some (r1, r2, r3) := by first | (rw [hy145]; with_reducible exact H) | (have H2_ := (Option.bind_some _ _).symm.trans H; rw [hy145]; with_reducible exact H2_) | (have H2_ := (Option.bind_some _ _).symm.trans H; with_reducible exact H2_) | with_reducible exact H | (rw [hy145]; exact H) | exact H
                              have Ny145 := Aside0.mk hy145
                              clear hy145
                              have H' := Aside0.mk H
                              clear H
                              go_wp2_with (first | ((with_reducible refine gate_callee (f := 32) rfl ?_); refine goesL_ (some 76) rfl rfl Tryd.func32 (by kernel_rfl) rfl #[.int .u8 (bt a0 x6_1)] rfl (by (try simp only [List.map_toArray, List.map_cons, List.map_nil]); first | done | rfl | (simp only [List.length_drop, List.length_take]; rfl)) ?_; (with_reducible refine (windlassref5_letter.calls (bt a0 x6_1) false _ A16.out).mono ?_); rintro e w' ⟨rfl, ⟨nd, rfl⟩⟩; refine ⟨_, rfl, ?_⟩) | ((with_reducible refine gate_callee (f := 33) rfl ?_); refine goesL_ (some 112) rfl rfl Tryd.func33 (by kernel_rfl) rfl #[.int .u8 (bt a0 x6_1)] rfl (by (try simp only [List.map_toArray, List.map_cons, List.map_nil]); first | done | rfl | (simp only [List.length_drop, List.length_take]; rfl)) ?_; (with_reducible refine (windlassref5_digit.calls (bt a0 x6_1) false _ A60.out).mono ?_); rintro e w' ⟨rfl, ⟨nd, rfl⟩⟩; refine ⟨_, rfl, ?_⟩) | ((with_reducible refine gate_callee (f := 35) rfl ?_); refine goesL_ (some 153) rfl rfl Tryd.func35 (by kernel_rfl) rfl #[.string a0, .int .i64 x6_1] rfl (by (try simp only [List.map_toArray, List.map_cons, List.map_nil]); first | done | rfl | (simp only [List.length_drop, List.length_take]; rfl)) ?_; (with_reducible refine (windlassref5_text.calls kj5 a0 x6_1 t142 t143 true _ A84.out).mono ?_); rintro e w87 ⟨rfl, hb⟩; refine ⟨_, rfl, ?_⟩; have n0_ := Aside0.mk (Kd.R_below (by (with_reducible repeat (first | apply Kd.R_alloc | apply Kd.R_drewN | apply Kd.R_drew)); exact HO_5.out) hb); have n1_ := Aside0.mk (below_step (by repeat (first | (with_reducible first | exact HB.out | apply below_alloc | apply pw_below_drewN | apply below_drew1) | exact HB.out)) hb); clear HO_5; clear HB; have HO_5 := n0_; have HB := n1_; clear n0_ n1_; (try clear hb); (try clear hb2); (try clear hk); (try clear hi)) | ((with_reducible refine gate_builtin (b := .append) (xs := #[.tmp 160, .tmp 164]) rfl ?_); at_builtin; refine Kd.R_append k28 (w0 := w) w.heap.size rfl (.tmp 160) (.tmp 164) 23 28 (.agg #[(.int .i64 0), (.string ⟨#[]⟩), (.int .i64 0)]) 32 rfl Tryd.underlying23 info28 rfl (by decide) (by omega) u5 x5_1 (⟨4, t142, x6_1⟩ : S28) [.int .i64 4, .string t142, .int .i64 x6_1] (fun _ => True) (fun _ => False) rfl rfl ?aP (fun _ hk => hk.elim) ?aF ?aO ?aB ?aS ?aL ?_; (case aP => exact k28_mkM _ _ _ (⟨4, t142, x6_1⟩ : S28)); (case aB => exact (by repeat (first | (with_reducible first | exact HB.out | apply below_alloc | apply pw_below_drewN | apply below_drew1) | exact HB.out))); (case aF => exact (fun _ _ => trivial)); (case aO => exact (by (with_reducible repeat (first | apply Kd.R_alloc | apply Kd.R_drewN | apply Kd.R_drew)); exact HO_5.out)); (case aS => exact (below_size (by repeat (first | (with_reducible first | exact HB.out | apply below_alloc | apply pw_below_drewN | apply below_drew1) | exact HB.out)))); (case aL => have := LMc86.out; omega); intro v146 w88 ho hb hg hat; rw [← Ny145.out] at ho; have n0_ := Aside0.mk (hb); have n1_ := Aside0.mk (ho); clear HB; clear HO_5; have HB := n0_; have HO147 := n1_; clear n0_ n1_; clear ho hb hg hat))
                              go_roundg kj5
                              case measure => have := HK1.out; have := HJ5.out; omega
                              case rel => exact ⟨(y145), (t143), (by first | rfl | (simp; done) | (simp [*]; done)), H', ⟨by have := HK1.out; have := HJ5.out; omega⟩, ⟨by (with_reducible repeat (first | apply Kd.R_alloc | apply Kd.R_drewN | apply Kd.R_drew)); exact HO147.out⟩, ⟨by repeat (first | (with_reducible first | exact HB.out | apply below_alloc | apply pw_below_drewN | apply below_drew1) | exact HB.out)⟩⟩
                            · rw [if_neg c86] at H
                              exact absurd H (by simp)
                          · replace c85 := Bool.eq_false_iff.mpr c85
                            subst c85
                            have H1 : (some (([] : List (S28)), x6_1, 52)) = some (r1, r2, r3) := by rw [if_neg (show ¬ (false = true) by decide)] at H; exact H
                            clear H
                            have H := H1
                            clear H1
                            simp only [Option.some.injEq, Prod.mk.injEq] at H
                            obtain ⟨rfl, rfl, rfl⟩ := H
                            go_wp2_with (first | ((with_reducible refine gate_callee (f := 32) rfl ?_); refine goesL_ (some 76) rfl rfl Tryd.func32 (by kernel_rfl) rfl #[.int .u8 (bt a0 x6_1)] rfl (by (try simp only [List.map_toArray, List.map_cons, List.map_nil]); first | done | rfl | (simp only [List.length_drop, List.length_take]; rfl)) ?_; (with_reducible refine (windlassref5_letter.calls (bt a0 x6_1) false _ A16.out).mono ?_); rintro e w' ⟨rfl, ⟨nd, rfl⟩⟩; refine ⟨_, rfl, ?_⟩) | ((with_reducible refine gate_callee (f := 33) rfl ?_); refine goesL_ (some 112) rfl rfl Tryd.func33 (by kernel_rfl) rfl #[.int .u8 (bt a0 x6_1)] rfl (by (try simp only [List.map_toArray, List.map_cons, List.map_nil]); first | done | rfl | (simp only [List.length_drop, List.length_take]; rfl)) ?_; (with_reducible refine (windlassref5_digit.calls (bt a0 x6_1) false _ A60.out).mono ?_); rintro e w' ⟨rfl, ⟨nd, rfl⟩⟩; refine ⟨_, rfl, ?_⟩) | ((with_reducible refine gate_callee (f := 35) rfl ?_); refine goesL_ (some 153) rfl rfl Tryd.func35 (by kernel_rfl) rfl #[.string a0, .int .i64 x6_1] rfl (by (try simp only [List.map_toArray, List.map_cons, List.map_nil]); first | done | rfl | (simp only [List.length_drop, List.length_take]; rfl)) ?_; (with_reducible refine (windlassref5_text.calls kj5 a0 x6_1 t142 t143 false _ A84.out).mono ?_); rintro e w89 ⟨rfl, hb⟩; refine ⟨_, rfl, ?_⟩; have n0_ := Aside0.mk (Kd.R_below (by (with_reducible repeat (first | apply Kd.R_alloc | apply Kd.R_drewN | apply Kd.R_drew)); exact HO_5.out) hb); have n1_ := Aside0.mk (below_step (by repeat (first | (with_reducible first | exact HB.out | apply below_alloc | apply pw_below_drewN | apply below_drew1) | exact HB.out)) hb); clear HO_5; clear HB; have HO_5 := n0_; have HB := n1_; clear n0_ n1_; (try clear hb); (try clear hb2); (try clear hk); (try clear hi)))
                            go_ret3
                            exact ⟨_, by first | rfl | (simp [errW_none, errW_some] <;> rfl) | (simp [*, errW_none, errW_some] <;> rfl), by first | exact Kd.R_nil _ _ _ _ _ | exact Kd.N_nil _ _ _ _ _ | exact Kd.V_nil _ _ _ _ _ | exact Kd.Q_nil _ _ _ _ _ | exact Kd.S_nil _ _ _ _ _, by repeat (first | (with_reducible first | exact HB.out | apply below_alloc | apply pw_below_drewN | apply below_drew1) | exact HB.out)⟩
                        · rw [if_neg c83] at H
                          have c83b0 : ((bt a0 x6_1) == 34) = false := beq_eq_false_iff_ne.mpr c83
                          have c83b1 : ((bt a0 x6_1) != 34) = true := bne_iff_ne.mpr c83
                          replace H := Option.bind_eq_some_iff.mp H
                          obtain ⟨t148, A900, H⟩ := H
                          replace H : (if t148.toList = ([] : List UInt8) then (some (([] : List (S28)), x6_1, 51)) else (if x5_1.length < 4398046511104 then (windlassref5_Tokens.l0 kj5 a0 (x5_1 ++ [(⟨5, t148, x6_1⟩ : S28)]) (wrap64 (x6_1 + (t148.size : Int)))) else (none))) = some (r1, r2, r3) := H
                          have A90 := Aside0.mk A900
                          clear A900
                          by_cases c91 : t148.toList = ([] : List UInt8)
                          · rw [if_pos c91] at H
                            have c91b0 : (t148.toList == ([] : List UInt8)) = true := beq_iff_eq.mpr c91
                            have c91b1 : (t148.toList != ([] : List UInt8)) = false := bne_eq_false_iff_eq.mpr c91
                            clear c91
                            simp only [Option.some.injEq, Prod.mk.injEq] at H
                            obtain ⟨rfl, rfl, rfl⟩ := H
                            go_wp2_with (first | ((with_reducible refine gate_callee (f := 32) rfl ?_); refine goesL_ (some 76) rfl rfl Tryd.func32 (by kernel_rfl) rfl #[.int .u8 (bt a0 x6_1)] rfl (by (try simp only [List.map_toArray, List.map_cons, List.map_nil]); first | done | rfl | (simp only [List.length_drop, List.length_take]; rfl)) ?_; (with_reducible refine (windlassref5_letter.calls (bt a0 x6_1) false _ A16.out).mono ?_); rintro e w' ⟨rfl, ⟨nd, rfl⟩⟩; refine ⟨_, rfl, ?_⟩) | ((with_reducible refine gate_callee (f := 33) rfl ?_); refine goesL_ (some 112) rfl rfl Tryd.func33 (by kernel_rfl) rfl #[.int .u8 (bt a0 x6_1)] rfl (by (try simp only [List.map_toArray, List.map_cons, List.map_nil]); first | done | rfl | (simp only [List.length_drop, List.length_take]; rfl)) ?_; (with_reducible refine (windlassref5_digit.calls (bt a0 x6_1) false _ A60.out).mono ?_); rintro e w' ⟨rfl, ⟨nd, rfl⟩⟩; refine ⟨_, rfl, ?_⟩) | ((with_reducible refine gate_callee (f := 36) rfl ?_); refine goesL_ (some 28) rfl rfl Tryd.func36 (by kernel_rfl) rfl #[.string a0, .int .i64 x6_1] rfl (by (try simp only [List.map_toArray, List.map_cons, List.map_nil]); first | done | rfl | (simp only [List.length_drop, List.length_take]; rfl)) ?_; (with_reducible refine (windlassref5_sign.calls a0 x6_1 t148 _ A90.out).mono ?_); rintro e w92 ⟨rfl, hb⟩; refine ⟨_, rfl, ?_⟩; have n0_ := Aside0.mk (Kd.R_below (by (with_reducible repeat (first | apply Kd.R_alloc | apply Kd.R_drewN | apply Kd.R_drew)); exact HO_5.out) hb); have n1_ := Aside0.mk (below_step (by repeat (first | (with_reducible first | exact HB.out | apply below_alloc | apply pw_below_drewN | apply below_drew1) | exact HB.out)) hb); clear HO_5; clear HB; have HO_5 := n0_; have HB := n1_; clear n0_ n1_; (try clear hb); (try clear hb2); (try clear hk); (try clear hi)))
                            go_ret3
                            exact ⟨_, by first | rfl | (simp [errW_none, errW_some] <;> rfl) | (simp [*, errW_none, errW_some] <;> rfl), by first | exact Kd.R_nil _ _ _ _ _ | exact Kd.N_nil _ _ _ _ _ | exact Kd.V_nil _ _ _ _ _ | exact Kd.Q_nil _ _ _ _ _ | exact Kd.S_nil _ _ _ _ _, by repeat (first | (with_reducible first | exact HB.out | apply below_alloc | apply pw_below_drewN | apply below_drew1) | exact HB.out)⟩
                          · rw [if_neg c91] at H
                            have c91b0 : (t148.toList == ([] : List UInt8)) = false := beq_eq_false_iff_ne.mpr c91
                            have c91b1 : (t148.toList != ([] : List UInt8)) = true := bne_iff_ne.mpr c91
                            by_cases c93 : x5_1.length < 4398046511104
                            · rw [if_pos c93] at H
                              have LMc93 := Aside0.mk c93
                              clear c93
                              obtain ⟨y149, hy149⟩ : ∃ y_ : List (S28), y_ = (x5_1 ++ [(⟨5, t148, x6_1⟩ : S28)]) := ⟨_, rfl⟩
                              replace H : (windlassref5_Tokens.l0 kj5 a0 y149 (wrap64 (x6_1 + (t148.size : Int)))) = some (r1, r2, r3) := by first | (rw [hy149]; with_reducible exact H) | (have H2_ := (Option.bind_some _ _).symm.trans H; rw [hy149]; with_reducible exact H2_) | (have H2_ := (Option.bind_some _ _).symm.trans H; with_reducible exact H2_) | with_reducible exact H | (rw [hy149]; exact H) | exact H
                              have Ny149 := Aside0.mk hy149
                              clear hy149
                              have H' := Aside0.mk H
                              clear H
                              go_wp2_with (first | ((with_reducible refine gate_callee (f := 32) rfl ?_); refine goesL_ (some 76) rfl rfl Tryd.func32 (by kernel_rfl) rfl #[.int .u8 (bt a0 x6_1)] rfl (by (try simp only [List.map_toArray, List.map_cons, List.map_nil]); first | done | rfl | (simp only [List.length_drop, List.length_take]; rfl)) ?_; (with_reducible refine (windlassref5_letter.calls (bt a0 x6_1) false _ A16.out).mono ?_); rintro e w' ⟨rfl, ⟨nd, rfl⟩⟩; refine ⟨_, rfl, ?_⟩) | ((with_reducible refine gate_callee (f := 33) rfl ?_); refine goesL_ (some 112) rfl rfl Tryd.func33 (by kernel_rfl) rfl #[.int .u8 (bt a0 x6_1)] rfl (by (try simp only [List.map_toArray, List.map_cons, List.map_nil]); first | done | rfl | (simp only [List.length_drop, List.length_take]; rfl)) ?_; (with_reducible refine (windlassref5_digit.calls (bt a0 x6_1) false _ A60.out).mono ?_); rintro e w' ⟨rfl, ⟨nd, rfl⟩⟩; refine ⟨_, rfl, ?_⟩) | ((with_reducible refine gate_callee (f := 36) rfl ?_); refine goesL_ (some 28) rfl rfl Tryd.func36 (by kernel_rfl) rfl #[.string a0, .int .i64 x6_1] rfl (by (try simp only [List.map_toArray, List.map_cons, List.map_nil]); first | done | rfl | (simp only [List.length_drop, List.length_take]; rfl)) ?_; (with_reducible refine (windlassref5_sign.calls a0 x6_1 t148 _ A90.out).mono ?_); rintro e w94 ⟨rfl, hb⟩; refine ⟨_, rfl, ?_⟩; have n0_ := Aside0.mk (Kd.R_below (by (with_reducible repeat (first | apply Kd.R_alloc | apply Kd.R_drewN | apply Kd.R_drew)); exact HO_5.out) hb); have n1_ := Aside0.mk (below_step (by repeat (first | (with_reducible first | exact HB.out | apply below_alloc | apply pw_below_drewN | apply below_drew1) | exact HB.out)) hb); clear HO_5; clear HB; have HO_5 := n0_; have HB := n1_; clear n0_ n1_; (try clear hb); (try clear hb2); (try clear hk); (try clear hi)) | ((with_reducible refine gate_builtin (b := .append) (xs := #[.tmp 32, .tmp 36]) rfl ?_); at_builtin; refine Kd.R_append k28 (w0 := w) w.heap.size rfl (.tmp 32) (.tmp 36) 23 28 (.agg #[(.int .i64 0), (.string ⟨#[]⟩), (.int .i64 0)]) 32 rfl Tryd.underlying23 info28 rfl (by decide) (by omega) u5 x5_1 (⟨5, t148, x6_1⟩ : S28) [.int .i64 5, .string t148, .int .i64 x6_1] (fun _ => True) (fun _ => False) rfl rfl ?aP (fun _ hk => hk.elim) ?aF ?aO ?aB ?aS ?aL ?_; (case aP => exact k28_mkM _ _ _ (⟨5, t148, x6_1⟩ : S28)); (case aB => exact (by repeat (first | (with_reducible first | exact HB.out | apply below_alloc | apply pw_below_drewN | apply below_drew1) | exact HB.out))); (case aF => exact (fun _ _ => trivial)); (case aO => exact (by (with_reducible repeat (first | apply Kd.R_alloc | apply Kd.R_drewN | apply Kd.R_drew)); exact HO_5.out)); (case aS => exact (below_size (by repeat (first | (with_reducible first | exact HB.out | apply below_alloc | apply pw_below_drewN | apply below_drew1) | exact HB.out)))); (case aL => have := LMc93.out; omega); intro v150 w95 ho hb hg hat; rw [← Ny149.out] at ho; have n0_ := Aside0.mk (hb); have n1_ := Aside0.mk (ho); clear HB; clear HO_5; have HB := n0_; have HO151 := n1_; clear n0_ n1_; clear ho hb hg hat))
                              go_roundg kj5
                              case measure => have := HK1.out; have := HJ5.out; omega
                              case rel => exact ⟨(y149), (wrap64 (x6_1 + (t148.size : Int))), (by first | rfl | (simp; done) | (simp [*]; done)), H', ⟨by have := HK1.out; have := HJ5.out; omega⟩, ⟨by (with_reducible repeat (first | apply Kd.R_alloc | apply Kd.R_drewN | apply Kd.R_drew)); exact HO151.out⟩, ⟨by repeat (first | (with_reducible first | exact HB.out | apply below_alloc | apply pw_below_drewN | apply below_drew1) | exact HB.out)⟩⟩
                            · rw [if_neg c93] at H
                              exact absurd H (by simp)
          · rw [if_neg c4] at H
            exact absurd H (by simp)
        · rw [if_neg c3] at H
          have c3b0 : decide (x6_1 < (a0.size : Int)) = false := decide_eq_false c3
          clear c3
          by_cases c96 : x5_1.length < 4398046511104
          · rw [if_pos c96] at H
            have LMc96 := Aside0.mk c96
            clear c96
            obtain ⟨y114, hy114⟩ : ∃ y_ : List (S28), y_ = (x5_1 ++ [(⟨0, (⟨#[]⟩ : ByteArray), (a0.size : Int)⟩ : S28)]) := ⟨_, rfl⟩
            replace H : (some (y114, 0, 0)) = some (r1, r2, r3) := by first | (rw [hy114]; with_reducible exact H) | (have H2_ := (Option.bind_some _ _).symm.trans H; rw [hy114]; with_reducible exact H2_) | (have H2_ := (Option.bind_some _ _).symm.trans H; with_reducible exact H2_) | with_reducible exact H | (rw [hy114]; exact H) | exact H
            have Ny114 := Aside0.mk hy114
            clear hy114
            simp only [Option.some.injEq, Prod.mk.injEq] at H
            obtain ⟨rfl, rfl, rfl⟩ := H
            go_wp2_with (first | ((with_reducible refine gate_builtin (b := .append) (xs := #[.tmp 167, .tmp 171]) rfl ?_); at_builtin; refine Kd.R_append k28 (w0 := w) w.heap.size rfl (.tmp 167) (.tmp 171) 23 28 (.agg #[(.int .i64 0), (.string ⟨#[]⟩), (.int .i64 0)]) 32 rfl Tryd.underlying23 info28 rfl (by decide) (by omega) u5 x5_1 (⟨0, (⟨#[]⟩ : ByteArray), (a0.size : Int)⟩ : S28) [.int .i64 0, .string (⟨#[]⟩ : ByteArray), .int .i64 (a0.size : Int)] (fun _ => True) (fun _ => False) rfl rfl ?aP (fun _ hk => hk.elim) ?aF ?aO ?aB ?aS ?aL ?_; (case aP => exact k28_mkM _ _ _ (⟨0, (⟨#[]⟩ : ByteArray), (a0.size : Int)⟩ : S28)); (case aB => exact (by repeat (first | (with_reducible first | exact HB.out | apply below_alloc | apply pw_below_drewN | apply below_drew1) | exact HB.out))); (case aF => exact (fun _ _ => trivial)); (case aO => exact (by (with_reducible repeat (first | apply Kd.R_alloc | apply Kd.R_drewN | apply Kd.R_drew)); exact HO_5.out)); (case aS => exact (below_size (by repeat (first | (with_reducible first | exact HB.out | apply below_alloc | apply pw_below_drewN | apply below_drew1) | exact HB.out)))); (case aL => have := LMc96.out; omega); intro v115 w97 ho hb hg hat; rw [← Ny114.out] at ho; have n0_ := Aside0.mk (hb); have n1_ := Aside0.mk (ho); clear HB; clear HO_5; have HB := n0_; have HO116 := n1_; clear n0_ n1_; clear ho hb hg hat))
            go_ret3
            exact ⟨_, by first | rfl | (simp [errW_none, errW_some] <;> rfl) | (simp [*, errW_none, errW_some] <;> rfl), by (with_reducible repeat (first | apply Kd.R_alloc | apply Kd.R_drewN | apply Kd.R_drew)); exact HO116.out, by repeat (first | (with_reducible first | exact HB.out | apply below_alloc | apply pw_below_drewN | apply below_drew1) | exact HB.out)⟩
          · rw [if_neg c96] at H
            exact absurd H (by simp)

end Go.Proofs.YtenbcmlacmepgaaDoor.PLexTokens
