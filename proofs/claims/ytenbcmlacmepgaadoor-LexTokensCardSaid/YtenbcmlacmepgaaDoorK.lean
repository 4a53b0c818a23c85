/- LexQuotes' walk. -/
import Derived.Test.YtenbcmlacmepgaaDoorJ
namespace Go.Proofs.YtenbcmlacmepgaaDoor
open Go.RowKit

/-- Tokens that are told, read. -/
theorem tokens_ok {s : List UInt8} {l : List Tk} (h : toks s = .ok l) (hl : l ≠ []) (w : World) : Calls Tryd.prog 9 #[.string (bs s)] w fun e w' => ∃ g cap, e = .returned (.tuple #[.slice (some ⟨g, 0, none⟩) l.length cap, .int .i64 0, .int .i64 0]) ∧ Below w.heap.size w w' ∧
    ∀ i t, l[i]? = some t → w'.cell? ⟨g, i * 3, none⟩ = some (.int .i64 t.kind) ∧ w'.cell? ⟨g, i * 3 + 1, none⟩ = some (.string (bs t.text)) ∧ w'.cell? ⟨g, i * 3 + 2, none⟩ = some (.int .i64 t.at_) := by
  refine (tokens_any s w).mono ?_
  intro e w' hp
  rw [h] at hp
  obtain ⟨hb, A, cap, rfl, ho⟩ := hp
  obtain ⟨g, rfl, hr⟩ := rd0_of_own ho hl
  exact ⟨g, cap, rfl, hb, hr⟩
theorem tokens_err {s : List UInt8} {a x : Nat} (h : toks s = .error (a, x)) (w : World) : Calls Tryd.prog 9 #[.string (bs s)] w fun e w' => e = .returned (.tuple #[.slice none 0 0, .int .i64 a, .int .i64 x]) ∧ Below w.heap.size w w' := by
  refine (tokens_any s w).mono ?_
  intro e w' hp
  rw [h] at hp
  exact ⟨hp.2, hp.1⟩
set_option maxHeartbeats 4000000 in
set_option maxRecDepth 100000 in
theorem quotes_any (s : List UInt8) (n : Int) (hs : s.length ≤ 9223372036854775807) (n0 : -9223372036854775808 ≤ n) (n1 : n ≤ 9223372036854775807) (w : World) (hm : MaxL w) : Calls Tryd.prog 5 #[.string (bs s), .int .i64 n] w fun e w' => e = .returned (.bool true) ∧ Below w.heap.size w w' := by
  have hsz := bs_size s
  by_cases hbig : 1500 < s.length
  · go_enter Tryd.func5, Tryd.ntmps5
    go_wp2_with fail
    refine (known_any _ hm).mono ?_
    rintro e w1 ⟨rfl, hb1⟩
    have HB1 := Lib.hid hb1
    clear hb1
    go_wp2_with fail
    go_ret
    exact ⟨rfl, HB1.out⟩
  · by_cases hn : n < 0 ∨ 100 < n
    · have HM := Lib.hid hm
      clear hm
      rcases hn with hn | hn
      all_goals
        go_enter Tryd.func5, Tryd.ntmps5
        go_wp2_with fail
        refine (known_any _ HM.out).mono ?_
        rintro e w1 ⟨rfl, hb1⟩
        have HB1 := Lib.hid hb1
        clear hb1
        go_wp2_with fail
        go_ret
        exact ⟨rfl, HB1.out⟩
    · obtain ⟨k, rfl⟩ : ∃ k : Nat, n = k := ⟨n.toNat, by omega⟩
      have hk : k ≤ 100 := by omega
      have HM := Lib.hid hm
      clear hm hn n0 n1
      go_enter Tryd.func5, Tryd.ntmps5
      go_wp2_with fail
      refine (known_any _ HM.out).mono ?_
      rintro e w1 ⟨rfl, hb1⟩
      have HB1 := Lib.hid hb1
      clear hb1
      go_wp2_with fail
      go_loopw [5, 6] (fun t i wr => ∃ j : Nat, j ≤ k ∧ i = .int .i64 j ∧ t = .string (bs (List.replicate j 32)) ∧ Hid (wr = w1)) (fun _ i _ => k - (intOf i).toNat)
      case atStart => exact ⟨0, Nat.zero_le _, rfl, rfl, Lib.hid rfl⟩
      case round =>
        obtain ⟨j, hj, rfl, rfl, hw⟩ := hrel
        obtain rfl := hw.out
        by_cases hjk : j < k
        · have hadd := add_run (bs (List.replicate j 32)) (bs [32]) (by rw [bs_size, bs_size]; simp; omega)
          rw [bs_add, show (List.replicate j (32 : UInt8)) ++ [32] = List.replicate (j + 1) 32 by rw [List.replicate_succ']] at hadd
          have hadd' : ∀ w : World, (Op.stringOp .add (bs (List.replicate j 32)) ⟨#[32]⟩).run Tryd.prog w = _ := hadd
          clear hadd
          go_wp2_with fail
          go_roundw
          case rel => exact ⟨j + 1, by omega, by go_num, rfl, by first | exact Lib.hid rfl | exact Lib.hid trivial⟩
          case measure => simp [intOf]; omega
        · obtain rfl : j = k := by omega
          have hq := Lib.hid (quote_any s (by omega) wr (HM.out.below HB1.out))
          have hql : (quoteL s).length ≤ 3002 := by have := dbl_len s; simp [quoteL]; omega
          have T1 := Lib.hid (quotes_one s j (by omega))
          have T2 := Lib.hid (quotes_two s j (by omega))
          obtain ⟨S, hS⟩ : ∃ S, List.replicate j (32 : UInt8) = S := ⟨_, rfl⟩
          have hSl : S.length = j := by rw [← hS]; simp
          have HSl := Lib.hid hSl
          rw [hS] at T1 T2 ⊢
          clear hS hSl
          go_wp2_with fail
          refine hq.out.mono ?_
          rintro e w2 ⟨rfl, hb2⟩
          have HB2 := Lib.hid hb2
          clear hb2
          obtain ⟨Q, hQ⟩ : ∃ Q, quoteL s = Q := ⟨_, rfl⟩
          rw [hQ] at T1 T2 hql ⊢
          rw [List.append_assoc] at T1 T2
          clear hQ
          have a1 := add_run (bs S) (bs Q) (by rw [bs_size, bs_size]; have := HSl.out; omega)
          have a2 := add_run (bs (S ++ Q)) (bs [32, 120]) (by rw [bs_size, bs_size, List.length_append]; have := HSl.out; simp; omega)
          have a3 := add_run (bs (S ++ Q)) (bs [34]) (by rw [bs_size, bs_size, List.length_append]; have := HSl.out; simp; omega)
          rw [bs_add] at a1 a2 a3
          have a2' : ∀ w : World, (Op.stringOp .add (bs (S ++ Q)) ⟨#[32, 120]⟩).run Tryd.prog w = _ := a2
          have a3' : ∀ w : World, (Op.stringOp .add (bs (S ++ Q)) ⟨#[34]⟩).run Tryd.prog w = _ := a3
          clear a2 a3
          go_wp2_with fail
          ((with_reducible refine (tokens_ok T1.out (by simp) w2).mono ?_); rintro e w3 ⟨g, cap, rfl, hb3, hrd⟩)
          obtain ⟨k0, k1, k2⟩ := hrd 0 _ rfl
          obtain ⟨_, k4, _⟩ := hrd 1 _ rfl
          have q1 : ((bs [120]).toList == [120]) = true := by kernel_rfl
          have HB3 := Lib.hid hb3
          clear hb3 hrd
          go_wp2_with fail
          ((with_reducible refine (tokens_err T2.out w3).mono ?_); rintro e w4 ⟨rfl, hb4⟩)
          have HB4 := Lib.hid hb4
          clear hb4
          go_wp2_with fail
          go_ret
          exact ⟨rfl, HB1.out.trans ((HB2.out.trans ((HB3.out.trans (HB4.out.mono HB3.out.size)).mono HB2.out.size)).mono HB1.out.size)⟩
end Go.Proofs.YtenbcmlacmepgaaDoor
