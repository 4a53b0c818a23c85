/- Plain law: the reference's tokens are the program's; its names and quotes. -/
import Derived.Test.YtenbcmlacmepgaaDoorU
namespace Go.Proofs.YtenbcmlacmepgaaDoor.PLexTokens
open Go.RowKit Go.Proofs.YtenbcmlacmepgaaDoorW.PrintWords Go.Proofs.YtenbcmlacmepgaaDoorW.PrintLast Go.Proofs.YtenbcmlacmepgaaDoorW.PrintMore

theorem u8_is {c : UInt8} (k : UInt8) : ((c.toNat : Int) = (k.toNat : Int)) ↔ c = k :=
  ⟨fun h => UInt8.toNat_inj.1 (by omega), fun h => by rw [h]⟩
theorem l0_head {s : List UInt8} {out : List Tk} {a : Nat} {c : UInt8} {l : List UInt8} (h : s.drop a = c :: l) {R : List S28 × Int × Int}
    (H : Ev (fun k => windlassref5_Tokens.j1 k (bs s) (outS out) a (c.toNat : Int) a (spaU c)) R) : Ev (fun k => windlassref5_Tokens.l0 k (bs s) (outS out) a) R := by
  obtain ⟨g1, g2, g3, g4⟩ := drop_at0 h
  have hb := bt_bs g1
  have hA : (a : Int) < ((bs s).size : Int) := by rw [bs_size]; omega
  have hB : (0 : Int) ≤ (a : Int) := by omega
  refine Ev.step (fun k => ?_) H
  simp only [windlassref5_Tokens.l0]
  rw [if_pos hA, if_pos hB, hb]
  by_cases h1 : c = 32
  · rw [if_pos (show (c.toNat : Int) = 32 from (u8_is 32).2 h1), h1]; rfl
  rw [if_neg (show ¬ (c.toNat : Int) = 32 from fun h => h1 ((u8_is 32).1 h))]
  by_cases h2 : c = 9
  · rw [if_pos (show (c.toNat : Int) = 9 from (u8_is 9).2 h2), h2]; rfl
  rw [if_neg (show ¬ (c.toNat : Int) = 9 from fun h => h2 ((u8_is 9).1 h))]
  by_cases h3 : c = 10
  · rw [if_pos (show (c.toNat : Int) = 10 from (u8_is 10).2 h3), h3]; rfl
  rw [if_neg (show ¬ (c.toNat : Int) = 10 from fun h => h3 ((u8_is 10).1 h))]
  have : spaU c = ((c.toNat : Int) == 13) := by
    unfold spaU
    rw [beq_eq_false_iff_ne.2 h1, beq_eq_false_iff_ne.2 h2, beq_eq_false_iff_ne.2 h3, Bool.eq_iff_iff]
    simp only [Bool.false_or, beq_iff_eq]
    exact (u8_is 13).symm
  rw [this]
theorem toks_loop {s : List UInt8} (hs : s.length ≤ 4096) : ∀ (n : Nat) (r : List UInt8) (a : Nat) (out : List Tk), r.length ≤ n → s.drop a = r → a ≤ s.length → out.length ≤ a → Ev (fun k => windlassref5_Tokens.l0 k (bs s) (outS out) a) (res (tk r a out)) := by
  intro n
  induction n with
  | zero =>
    intro r a out h1 h2 h3 h4
    obtain rfl : r = [] := List.eq_nil_of_length_eq_zero (by omega)
    obtain rfl : a = s.length := by have := congrArg List.length h2; simp at this; omega
    rw [tk_nil]
    exact at_end hs out (by omega)
  | succ n ih =>
    intro r a out h1 h2 h3 h4
    cases r with
    | nil =>
      obtain rfl : a = s.length := by have := congrArg List.length h2; simp at this; omega
      rw [tk_nil]
      exact at_end hs out (by omega)
    | cons c l =>
      obtain ⟨g1, g2, g3, g4⟩ := drop_at0 h2
      have ho : out.length ≤ 4096 := by omega
      have hle : a ≤ 1099511627776 := by omega
      have hln : l.length ≤ n := by simp at h1; omega
      refine l0_head h2 ?_
      have hol := outS_len out ho
      have next : ∀ (m : Nat) (out' : List Tk), 1 ≤ m → m ≤ (c :: l).length → out'.length ≤ a + m → Ev (fun k => windlassref5_Tokens.l0 k (bs s) (outS out') ((a + m : Nat) : Int)) (res (tk ((c :: l).drop m) (a + m) out')) := by
        intro m out' q1 q2 q3
        refine ih _ _ _ ?_ ?_ ?_ q3
        · rw [List.length_drop]; simp; omega
        · rw [← List.drop_drop, h2]
        · simp at q2; omega
      cases hsp : spaU c with
      | true =>
        have hst : step c l = .skip 1 := by unfold step; rw [hsp]; rfl
        rw [tk_skip hst]
        refine Ev.step (fun k => ?_) (next 1 out (by omega) (by simp) (by omega))
        simp only [windlassref5_Tokens.j1]
        rw [if_pos trivial, wr1 a hle]
      | false =>
        by_cases hc35 : c = 35
        · have hst : step c l = .skip (lineN (c :: l)) := by unfold step; rw [hsp, hc35]; rfl
          have hl1 : 1 ≤ lineN (c :: l) := by rw [hc35]; simp [lineN]
          rw [tk_skip hst]
          have N := note_loop hs out _ (c :: l).length (c :: l) a (Nat.le_refl _) h2 h3 (next (lineN (c :: l)) out hl1 (lineN_le _) (by omega))
          refine Ev.step (fun k => ?_) N
          simp only [windlassref5_Tokens.j1]
          rw [if_neg (by simp), if_pos (show (c.toNat : Int) = 35 from (u8_is 35).2 hc35)]
        · have n35 : ¬ ((c.toNat : Int) = 35) := fun h => hc35 ((u8_is 35).1 h)
          have b35 : (c == 35) = false := beq_eq_false_iff_ne.2 hc35
          cases hlet : letR c.toNat with
          | true =>
            have hn := runN_le lodR (c :: l)
            have hn1 : 1 ≤ runN lodR (c :: l) := runN_pos (by simp [lodR, hlet])
            have hst : step c l = .tok (wordK ((c :: l).take (runN lodR (c :: l)))) ((c :: l).take (runN lodR (c :: l))) (runN lodR (c :: l)) := by unfold step; rw [hsp, b35, hlet]; rfl
            rw [tk_tok hst]
            have W := word_loop hs out ho a (n := (c :: l).length) (r := c :: l) (i := a) (Nat.le_refl _) h2 h3 (Nat.le_refl _) (R := res (tk ((c :: l).drop (runN lodR (c :: l))) (a + runN lodR (c :: l)) (out ++ [⟨wordK ((c :: l).take (runN lodR (c :: l))), (c :: l).take (runN lodR (c :: l)), a⟩])))
              (by
                rw [h2, Nat.add_sub_cancel_left]
                exact next _ _ hn1 hn (by simp; omega))
            refine Ev.step (fun k => ?_) W
            simp only [windlassref5_Tokens.j1]
            rw [if_neg (by simp), if_neg n35, letter_f, hlet]
            rfl
          | false =>
            cases hdig : digR c.toNat with
            | true =>
              have hn := runN_le digR (c :: l)
              have hn1 : 1 ≤ runN digR (c :: l) := runN_pos hdig
              have hst : step c l = .tok 3 (numT (c :: l) (runN digR (c :: l))) (runN digR (c :: l)) := by unfold step; rw [hsp, b35, hlet, hdig]; rfl
              rw [tk_tok hst, numT_strip hn1 hn]
              have W := int_loop hs out ho a (n := (c :: l).length) (r := c :: l) (i := a) (Nat.le_refl _) h2 h3 (by omega) (Nat.le_refl _) (R := res (tk ((c :: l).drop (runN digR (c :: l))) (a + runN digR (c :: l)) (out ++ [⟨3, stripZ ((c :: l).take (runN digR (c :: l))), a⟩])))
                (by
                  rw [h2, Nat.add_sub_cancel_left]
                  exact next _ _ hn1 hn (by simp; omega))
              refine Ev.step (fun k => ?_) W
              simp only [windlassref5_Tokens.j1]
              rw [if_neg (by simp), if_neg n35, letter_f, hlet, digit_f, hdig]
              rfl
            | false =>
              by_cases hc34 : c = 34
              · have hst : step c l = stepQ l := by unfold step; rw [hsp, b35, hlet, hdig, hc34]; rfl
                have T := text_ev s hs a l g3 g2
                cases hq : quo l with
                | none =>
                  rw [hq] at T
                  have hst2 : step c l = .bad 52 := by rw [hst]; unfold stepQ; rw [hq]
                  rw [tk_bad hst2]
                  refine Ev.step (fun k => ?_) (Ev.bind (f := fun k (x : ByteArray × Int × Bool) => (if x.2.2 = true then (if (outS out).length < 4398046511104 then (windlassref5_Tokens.l0 k (bs s) (outS out ++ [(⟨4, x.1, (a : Int)⟩ : S28)]) x.2.1) else (none)) else (some (([] : List (S28)), (a : Int), 52)))) T (Ev.now _))
                  simp only [windlassref5_Tokens.j1]
                  rw [if_neg (by simp), if_neg n35, letter_f, hlet, digit_f, hdig, if_pos (show (c.toNat : Int) = 34 from (u8_is 34).2 hc34)]
                  rfl
                | some p =>
                  obtain ⟨t, m⟩ := p
                  rw [hq] at T
                  obtain ⟨q1, q2, q3⟩ := quo_le hq
                  have hst2 : step c l = .tok 4 t (m + 1) := by rw [hst]; unfold stepQ; rw [hq]
                  rw [tk_tok hst2]
                  have N := next (m + 1) (out ++ [⟨4, t, a⟩]) (by omega) (by simp; omega) (by simp; omega)
                  refine Ev.step (fun k => ?_) (Ev.bind (f := fun k (x : ByteArray × Int × Bool) => (if x.2.2 = true then (if (outS out).length < 4398046511104 then (windlassref5_Tokens.l0 k (bs s) (outS out ++ [(⟨4, x.1, (a : Int)⟩ : S28)]) x.2.1) else (none)) else (some (([] : List (S28)), (a : Int), 52)))) T (Ev.congr (fun k => ?_) N))
                  · simp only [windlassref5_Tokens.j1]
                    rw [if_neg (by simp), if_neg n35, letter_f, hlet, digit_f, hdig, if_pos (show (c.toNat : Int) = 34 from (u8_is 34).2 hc34)]
                    rfl
                  · simp only [textR]
                    rw [if_pos trivial, if_pos hol, ← outS_snoc, List.nil_append, show a + 1 + m = a + (m + 1) by omega]
                    rfl
              · have b34 : (c == 34) = false := beq_eq_false_iff_ne.2 hc34
                have n34 : ¬ ((c.toNat : Int) = 34) := fun h => hc34 ((u8_is 34).1 h)
                have hst : step c l = stepS (c :: l) := by unfold step; rw [hsp, b35, hlet, hdig, b34]; rfl
                have hsf := sign_f hs h2
                cases hso : signOf (c :: l) with
                | none =>
                  rw [hso] at hsf
                  have hst2 : step c l = .bad 51 := by rw [hst]; unfold stepS; rw [hso]
                  rw [tk_bad hst2]
                  refine Ev.step (f := fun _ => some (([] : List (S28)), (a : Int), 51)) (fun k => ?_) (Ev.now _)
                  simp only [windlassref5_Tokens.j1]
                  rw [if_neg (by simp), if_neg n35, letter_f, hlet, digit_f, hdig]
                  simp only [Option.bind_some, Bool.false_eq_true, if_false]
                  rw [if_neg n34, hsf]
                  simp only [Option.bind_some, Option.getD_none]
                  rw [if_pos (bs_tl [])]
                | some x =>
                  rw [hso] at hsf
                  obtain ⟨x1, x2⟩ := signOf_some hso
                  have xl := signs_len x x1
                  have xp := x2.length_le
                  have hst2 : step c l = .tok 5 x x.length := by rw [hst]; unfold stepS; rw [hso]
                  rw [tk_tok hst2]
                  have N := next x.length (out ++ [⟨5, x, a⟩]) xl.1 xp (by simp; omega)
                  have hw : wrap64 ((a : Int) + ((bs x).size : Int)) = ((a + x.length : Nat) : Int) := by rw [bs_size]; unfold wrap64; omega
                  have hne : ¬ ((bs x).toList = ([] : List UInt8)) := by rw [bs_tl]; intro h; rw [h] at xl; simp at xl
                  refine Ev.step (fun k => ?_) N
                  simp only [windlassref5_Tokens.j1]
                  rw [if_neg (by simp), if_neg n35, letter_f, hlet, digit_f, hdig]
                  simp only [Option.bind_some, Bool.false_eq_true, if_false]
                  rw [if_neg n34, hsf]
                  simp only [Option.bind_some, Option.getD_some]
                  rw [if_neg hne, if_pos hol, hw, ← outS_snoc]
                  rfl
theorem tokens_ev (s : List UInt8) : Ev (fun k => windlassref5_Tokens.f k (bs s)) (res (toks s)) := by
  by_cases hs : 4096 < s.length
  · have : toks s = .error (0, 50) := by unfold toks; rw [if_pos hs]
    rw [this]
    refine Ev.congr (f := fun _ => some (([] : List (S28)), 0, 50)) (fun k => ?_) (Ev.now _)
    unfold windlassref5_Tokens.f
    rw [if_pos (by rw [bs_size]; omega)]
  · rw [toks_tk (by omega)]
    refine Ev.congr (fun k => ?_) (toks_loop (by omega) s.length s 0 [] (Nat.le_refl _) rfl (by omega) (by simp))
    unfold windlassref5_Tokens.f
    rw [if_neg (by rw [bs_size]; omega)]
    rfl
end Go.Proofs.YtenbcmlacmepgaaDoor.PLexTokens
