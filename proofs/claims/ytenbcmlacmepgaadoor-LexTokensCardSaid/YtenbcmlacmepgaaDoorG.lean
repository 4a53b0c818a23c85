/- lex.Tokens: what it tells, of every row of bytes. -/
import Derived.Test.YtenbcmlacmepgaaDoorF
import Derived.Deep.LoopGhost
namespace Go.Proofs.YtenbcmlacmepgaaDoor
open Go.RowKit

def TokPost (w : World) : Except (Nat × Nat) (List Tk) → Ending → World → Prop
  | .ok l, e, w' => Below w.heap.size w w' ∧ ∃ A cap, e = .returned (.tuple #[.slice A l.length cap, .int .i64 0, .int .i64 0]) ∧ w'.ownsRow w.heap.size 28 3 (.slice A l.length cap) l.length (tkCells l)
  | .error (a, x), e, w' => Below w.heap.size w w' ∧ e = .returned (.tuple #[.slice none 0 0, .int .i64 a, .int .i64 x])

theorem TokSt.of_heap {B o p a : Nat} {w w' : World} {v : Value} {l : List Tk} (h : TokSt B w o p v l a) (hh : w'.heap = w.heap) : TokSt B w' o p v l a := by
  obtain ⟨h1, h2, h3, h4, h5⟩ := h
  refine ⟨h1, h2, by rw [hh]; exact h3, by rw [hh]; exact h4, h5.1, ?_⟩
  rcases h5.2 with h0 | ⟨g, cap, cur, hv, hg, hc, r⟩
  · exact .inl h0
  · exact .inr ⟨g, cap, cur, hv, hg, by rw [hh]; exact hc, r⟩
theorem RowAt.of_heap {w w' : World} {b : Nat} {L : List (List UInt8)} (h : RowAt w b L) (hh : w'.heap = w.heap) : RowAt w' b L := by unfold RowAt; rw [hh]; exact h
theorem TokSt.below {B o p a : Nat} {w w' : World} {v : Value} {l : List Tk} (h : TokSt B w o p v l a) (hb : Below w.heap.size w w') : TokSt B w' o p v l a := by
  obtain ⟨h1, h2, h3, h4, h5⟩ := h
  refine ⟨h1, h2, (hb.block o (lt_of_block h3)).trans h3, (hb.block p (lt_of_block h4)).trans h4, h5.1, ?_⟩
  rcases h5.2 with h0 | ⟨g, cap, cur, hv, hg, hc, r⟩
  · exact .inl h0
  · exact .inr ⟨g, cap, cur, hv, hg, (hb.block g (lt_of_block hc)).trans hc, r⟩

theorem TokSt.facts {B o p a : Nat} {w : World} {v : Value} {l : List Tk} (h : TokSt B w o p v l a) : w.cell? ⟨p, 0, none⟩ = some (.int .i64 a) ∧ w.frozen? ⟨p, 0, none⟩ = false ∧ w.cell? ⟨o, 0, none⟩ = some v := by
  obtain ⟨h1, h2, h3, h4, h5⟩ := h
  exact ⟨cell_of_row _ p 0 _ 3 (0, 0) h4, by simp [World.frozen?, h4], cell_of_row _ o 0 _ 23 (0, 0) h3⟩
theorem tok_move {B o p a a' : Nat} {w : World} {v : Value} {l : List Tk} (h : TokSt B w o p v l a) {x : Int} (hx : x = a') :
    TokSt B (w.setCell ⟨p, 0, none⟩ (.int .i64 x)) o p v l a' ∧ Below B w (w.setCell ⟨p, 0, none⟩ (.int .i64 x)) ∧ ∀ b L, RowAt w b L → RowAt (w.setCell ⟨p, 0, none⟩ (.int .i64 x)) b L := by
  subst hx
  obtain ⟨h1, h2, h3, h4, h5⟩ := h
  have hop : o ≠ p := by
    rintro rfl
    rw [h3] at h4
    injection h4 with h4
    injection h4 with _ e
    exact absurd e (by decide)
  refine ⟨⟨h1, h2, ?_, set_here h4 _, ?_⟩, Below.setCell (Below.refl _ _) (by exact h2) _, fun b L hb => ?_⟩
  · rw [Below.heap_setCell _ _ _ _ (by exact hop)]; exact h3
  · exact ownsRow_setCell_other h5 (a := ⟨p, 0, none⟩) (fun e => own_blocks h5 h4 (by decide) e.symm) _
  · have hbp : b ≠ p := by
      rintro rfl
      have hb' : w.heap[b]? = some (rowC L) := hb
      rw [h4] at hb'
      injection hb' with hb'
      unfold rowC at hb'
      injection hb' with _ e
      exact absurd e (by decide)
    show (w.setCell _ _).heap[b]? = _
    rw [Below.heap_setCell _ _ _ _ (by exact hbp)]
    exact hb
theorem row_keep {B o p a b : Nat} {w w' : World} {v : Value} {l : List Tk} {L : List (List UInt8)} (hr : RowAt w b L) (h : TokSt B w o p v l a) (hk : KeepTok w w' o p v) : RowAt w' b L := by
  obtain ⟨h1, h2, h3, h4, h5⟩ := h
  have hb : w.heap[b]? = some (rowC L) := hr
  have ne : ∀ (i : Nat) (cs : Array Value) (t : TypeId), w.heap[i]? = some (.cells cs t (0, 0)) → t ≠ 9 → b ≠ i := by
    rintro i cs t hi ht rfl
    rw [hb] at hi
    injection hi with hi
    unfold rowC at hi
    injection hi with _ e
    exact ht e.symm
  exact (hk.2 b (lt_of_block hb) (ne o _ 23 h3 (by decide)) (ne p _ 3 h4 (by decide)) (own_blocks h5 (show w.heap[b]? = some (.cells _ 9 (0, 0)) from hb) (by decide))).trans hb
theorem rel_skip {s : List UInt8} {a f n : Nat} {out : List Tk} {c : UInt8} {l : List UInt8} {R : Except (Nat × Nat) (List Tk)} (H : R = toksF f (s.drop a) a out) (hd : s.drop a = c :: l) (hs : step c l = .skip n) (hf : s.length - a < f) (hn : 1 ≤ n) (ha : a < s.length) :
    ∃ f', s.length - (a + n) < f' ∧ R = toksF f' (s.drop (a + n)) (a + n) out := by
  obtain ⟨f', rfl⟩ : ∃ f', f = f' + 1 := ⟨f - 1, by omega⟩
  refine ⟨f', by omega, ?_⟩
  rw [H, hd]
  simp only [toksF, hs]
  rw [← hd, List.drop_drop]
theorem rel_tok {s : List UInt8} {a f n k : Nat} {out : List Tk} {c : UInt8} {l t : List UInt8} {R : Except (Nat × Nat) (List Tk)} (H : R = toksF f (s.drop a) a out) (hd : s.drop a = c :: l) (hs : step c l = .tok k t n) (hf : s.length - a < f) (hn : 1 ≤ n) (ha : a < s.length) :
    ∃ f', s.length - (a + n) < f' ∧ R = toksF f' (s.drop (a + n)) (a + n) (out ++ [⟨k, t, a⟩]) := by
  obtain ⟨f', rfl⟩ : ∃ f', f = f' + 1 := ⟨f - 1, by omega⟩
  refine ⟨f', by omega, ?_⟩
  rw [H, hd]
  simp only [toksF, hs]
  rw [← hd, List.drop_drop]
theorem rel_bad {s : List UInt8} {a f e : Nat} {out : List Tk} {c : UInt8} {l : List UInt8} {R : Except (Nat × Nat) (List Tk)} (H : R = toksF f (s.drop a) a out) (hd : s.drop a = c :: l) (hs : step c l = .bad e) (hf : s.length - a < f) : R = .error (a, e) := by
  obtain ⟨f', rfl⟩ : ∃ f', f = f' + 1 := ⟨f - 1, by omega⟩
  rw [H, hd]
  simp only [toksF, hs]
theorem rel_end {s : List UInt8} {a f : Nat} {out : List Tk} {R : Except (Nat × Nat) (List Tk)} (H : R = toksF f (s.drop a) a out) (hf : s.length - a < f) (ha : s.length ≤ a) : R = .ok (out ++ [⟨0, [], a⟩]) := by
  obtain ⟨f', rfl⟩ : ∃ f', f = f' + 1 := ⟨f - 1, by omega⟩
  rw [H, List.drop_eq_nil_of_le ha]
  simp only [toksF]
theorem u8_eq (c : UInt8) (k : UInt8) : (c == k) = ((c.toNat : Int) == (k.toNat : Int)) := by
  rw [Bool.eq_iff_iff]
  simp
  constructor
  · rintro rfl; rfl
  · intro h; exact UInt8.toNat_inj.1 (by omega)
theorem lineN_none {l : List UInt8} (h : Lib.indexByte l 10 = -1) : lineN l = l.length := by
  have hn := Lib.indexByte_none h
  clear h
  induction l with
  | nil => rfl
  | cons c l ih =>
    have hc : c ≠ 10 := fun e => hn 0 (by simp [e])
    have := ih (fun k => by have := hn (k + 1); simpa using this)
    unfold lineN at this ⊢
    rw [List.takeWhile_cons]
    simp only [bne_iff_ne, ne_eq, hc, not_false_eq_true, if_true, List.length_cons, this]
theorem words_has (t : List UInt8) : Lib.containsS ((wordsL.map bs).take 29) (bs t) = wordsL.contains t := by
  have e : (wordsL.map bs).take 29 = wordsL.map bs := List.take_of_length_le (by decide)
  rw [e, Bool.eq_iff_iff, Lib.containsS_iff, List.contains_iff_mem]
  constructor
  · intro h
    obtain ⟨x, hx, he⟩ := List.mem_map.1 h
    have := congrArg (fun b : ByteArray => b.data.toList) he
    simp only [bs_list] at this
    rw [← this]; exact hx
  · intro h; exact List.mem_map.2 ⟨t, h, rfl⟩
theorem words_cells {w : World} {b : Nat} (h : RowAt w b wordsL) : ∀ j, j < (wordsL.map bs).length → w.cell? ⟨b, 0 + j, none⟩ = some (.string ((wordsL.map bs).getD j ByteArray.empty)) := by
  intro j hj
  have hj' : j < wordsL.length := by simpa using hj
  rw [Nat.zero_add, h.cell (List.getElem?_eq_getElem hj')]
  simp [List.getD, hj']
theorem lineN_some {l : List UInt8} {o : Nat} (h : Lib.indexByte l 10 = o) : lineN l = o := by
  obtain ⟨h1, h2⟩ := Lib.indexByte_some h
  clear h
  induction l generalizing o with
  | nil => simp at h1
  | cons c l ih =>
    cases o with
    | zero =>
      have : c = 10 := by simpa using h1
      simp [lineN, this]
    | succ o =>
      have hc : c ≠ 10 := fun e => h2 0 (by omega) (by simp [e])
      have := ih (o := o) (by simpa using h1) (fun k hk => by have := h2 (k + 1) (by omega); simpa using this)
      unfold lineN at this ⊢
      rw [List.takeWhile_cons]
      simp only [bne_iff_ne, ne_eq, hc, not_false_eq_true, if_true, List.length_cons]
      omega
theorem sign_at {r x : List UInt8} {q : Nat} (hx : signsL[q]? = some x) (hp : x.isPrefixOf r = true) (hn : ∀ j y, j < q → signsL[j]? = some y → y.isPrefixOf r = false) : signOf r = some x := by
  unfold signOf
  obtain ⟨hq, hx'⟩ := List.getElem?_eq_some_iff.1 hx
  rw [List.find?_eq_some_iff_getElem]
  refine ⟨hp, q, hq, hx', fun j hj => ?_⟩
  rw [hn j _ hj (List.getElem?_eq_getElem (by omega))]
  rfl
theorem prefix_len {r x : List UInt8} (h : x.isPrefixOf r = true) : x.length ≤ r.length := by
  have : x <+: r := by simpa using h
  exact this.length_le
theorem sign_no {r : List UInt8} (hn : ∀ j y, j < 27 → signsL[j]? = some y → y.isPrefixOf r = false) : signOf r = none := by
  unfold signOf
  rw [List.find?_eq_none]
  intro x hx
  obtain ⟨i, hi⟩ := List.getElem?_of_mem hx
  rw [hn i x (show i < signsL.length from (List.getElem?_eq_some_iff.1 hi).1) hi]
  simp
set_option maxHeartbeats 4000000 in
set_option maxRecDepth 100000 in
theorem tokens_any (s : List UInt8) (w : World) : Calls Tryd.prog 9 #[.string (bs s)] w (TokPost w (toks s)) := by
  have hsz := bs_size s
  by_cases hlong : 4096 < s.length
  · have HT : Hid (toks s = .error (0, 50)) := Lib.hid (by simp [toks, hlong])
    rw [HT.out]
    go_enter Tryd.func9, Tryd.ntmps9
    go_wp2_with fail
    go_step3
    go_wp2_with fail
    rw [Exit.noGoto_ret]
    go_ret3
    exact ⟨Below.refl _ _, rfl⟩
  · have HT : Hid (toks s = toksF (s.length + 1) s 0 []) := Lib.hid (by simp [toks, hlong])
    rw [HT.out]
    go_enter Tryd.func9, Tryd.ntmps9
    go_wp2_with fail
    go_step3
    go_wp2_with fail
    refine (words_any _).mono ?_
    rintro e w1 ⟨rfl, rfl⟩
    go_wp2_with fail
    go_step3
    go_wp2_with fail
    have hs0 : TokSt w.heap.size (((w.alloc (.cells #[.slice none 0 0] 23)).alloc (rowC wordsL)).alloc (.cells #[.int .i64 0] 3)) w.heap.size (w.heap.size + 1 + 1) (.slice none 0 0) [] 0 := by
      refine ⟨Nat.le_refl _, by omega, ?_, ?_, World.ownsRow_nil _ _ _ _⟩
      · exact ((Below.heap_alloc _ _ _ (by rw [World.size_alloc, World.size_alloc]; omega)).trans (Below.heap_alloc _ _ _ (by rw [World.size_alloc]; omega))).trans (heap_alloc_new w _)
      · have := heap_alloc_new ((w.alloc (.cells #[.slice none 0 0] 23)).alloc (rowC wordsL)) (.cells #[.int .i64 0] 3)
        rwa [World.size_alloc, World.size_alloc] at this
    have hr0 : RowAt (((w.alloc (.cells #[.slice none 0 0] 23)).alloc (rowC wordsL)).alloc (.cells #[.int .i64 0] 3)) (w.heap.size + 1) wordsL := by
      have h1 := heap_alloc_new (w.alloc (.cells #[.slice none 0 0] 23)) (rowC wordsL)
      rw [World.size_alloc] at h1
      exact (Below.heap_alloc _ _ _ (lt_of_block h1)).trans h1
    have hb0 : Below w.heap.size w (((w.alloc (.cells #[.slice none 0 0] 23)).alloc (rowC wordsL)).alloc (.cells #[.int .i64 0] 3)) :=
      (((Below.refl _ _).alloc (Nat.le_refl _) _).alloc (by simp) _).alloc (by simp; omega) _
    have HS0 := Lib.hid hs0
    have HR0 := Lib.hid hr0
    have HB0 := Lib.hid hb0
    clear hs0 hr0 hb0
    go_loopg [] s.length (fun g wr => ∃ (a f : Nat) (v : Value) (out : List Tk), a + g = s.length ∧ s.length - a < f ∧ Hid (toksF (s.length + 1) s 0 [] = toksF f (s.drop a) a out) ∧ out.length ≤ a ∧ Hid (TokSt w.heap.size wr w.heap.size (w.heap.size + 1 + 1) v out a) ∧ Hid (RowAt wr (w.heap.size + 1) wordsL) ∧ Hid (Below w.heap.size w wr))
    case atStart => exact ⟨0, s.length + 1, _, [], by omega, by omega, Lib.hid rfl, Nat.le_refl _, HS0, HR0, HB0⟩
    case round =>
      obtain ⟨a, f, v, out, hag, hf, HF, hout, HS, HR, HB⟩ := hrel
      obtain ⟨kp, fp, ko⟩ := HS.out.facts
      by_cases ha : a < s.length
      · obtain ⟨c, l, hd⟩ : ∃ c l, s.drop a = c :: l := by
          cases hd : s.drop a with
          | nil => have := congrArg List.length hd; simp at this; omega
          | cons c l => exact ⟨c, l, rfl⟩
        have hll : l.length + 1 = s.length - a := by have := congrArg List.length hd; simp at this; omega
        have he : (bs s).extract a s.length = bs (c :: l) := by rw [bs_extract, List.take_of_length_le (by simp), hd]
        have hg : ∀ h, (bs (c :: l))[0]'h = c := fun h => bs_at (by simp) h
        have hcl : wrap32 (c.toNat : Int) = c.toNat := by have := c.toNat_lt; unfold wrap32; omega
        have hsz2 := bs_size (c :: l)
        have HD := Lib.hid hd
        clear hd
        go_wp2_with fail
        refine (space_any c wr).mono ?_
        rintro e w1 ⟨rfl, hb1⟩
        have HS1 := Lib.hid (HS.out.below hb1)
        have HR1 := Lib.hid (HR.out.below hb1)
        have HB1 := Lib.hid (HB.out.trans (hb1.mono HB.out.size))
        obtain ⟨kp, fp, ko⟩ := HS1.out.facts
        clear hb1
        cases h1 : spaU c with
        | true =>
          go_wp2_with fail
          go_roundg (s.length - (a + 1))
          case measure => omega
          case rel =>
            obtain ⟨m1, m2, m3⟩ := tok_move HS1.out (a' := a + 1) (x := a + 1) (by omega)
            obtain ⟨f', hf', hF'⟩ := rel_skip HF.out HD.out (show step c l = .skip 1 by simp [step, h1]) hf (by omega) ha
            exact ⟨a + 1, f', v, out, by omega, hf', Lib.hid hF', by omega, Lib.hid m1, Lib.hid (m3 _ _ HR1.out), Lib.hid (HB1.out.trans m2)⟩
        | false =>
          have q35 := u8_eq c 35
          have q34 := u8_eq c 34
          rw [show ((35 : UInt8).toNat : Int) = 35 from rfl] at q35
          rw [show ((34 : UInt8).toNat : Int) = 34 from rfl] at q34
          have Q35 := Lib.hid q35
          have Q34 := Lib.hid q34
          clear q35 q34
          cases h2 : ((c.toNat : Int) == 35) with
          | true =>
            go_wp2_with fail
            refine (Tryd.strings_IndexByte _ 10 w1).mono ?_
            rintro e w2 ⟨rfl, rfl⟩
            rw [bs_list, show (10 : Int).toNat.toUInt8 = 10 from rfl]
            have hge := Lib.indexByte_ge (c :: l) 10
            have hst : Hid (step c l = .skip (lineN (c :: l))) := Lib.hid (by simp [step, h1, Q35.out, h2])
            have hc10 : Hid (c ≠ 10) := Lib.hid (by rintro rfl; exact absurd h2 (by decide))
            by_cases hneg : Lib.indexByte (c :: l) 10 = -1
            · have hN := lineN_none hneg
              have HN := Lib.hid hN
              rw [hneg]
              clear hneg hge hN
              go_wp2_with fail
              obtain ⟨m1, m2, m3⟩ := tok_move HS1.out (a' := s.length) (x := s.length) rfl
              obtain ⟨f', hf', hF'⟩ := rel_skip HF.out HD.out hst.out hf (by rw [HN.out]; simp) ha
              have HE := Lib.hid (rel_end hF' hf' (by rw [HN.out]; simp only [List.length_cons]; omega))
              have haa : a + lineN (c :: l) = s.length := by rw [HN.out]; simp only [List.length_cons]; omega
              rw [haa] at HE
              refine (add_any w.heap.size _ _ _ v out s.length m1 (by omega) (by omega) 0 0 (by omega) []).mono ?_
              rintro e w7 ⟨rfl, hb5, hk5, v5, hs5⟩
              have HB5 := Lib.hid ((HB1.out.trans m2).trans hb5)
              have HS5 := Lib.hid hs5
              obtain ⟨kp, fp, ko⟩ := hs5.facts
              obtain ⟨A5, c5, rfl⟩ := own_form hs5.2.2.2.2
              clear hb5 hk5 hs5 m1 m2 m3 hF' haa
              go_wp2_with fail
              show bodyPost Tryd.prog Tryd.f9 (TokPost w (toksF (s.length + 1) s 0 [])) .ret _ _
              rw [HE.out]
              go_ret3
              exact ⟨HB5.out, A5, c5, by rw [List.length_append]; rfl, HS5.out.2.2.2.2⟩
            · obtain ⟨o, ho⟩ : ∃ o : Nat, Lib.indexByte (c :: l) 10 = o := ⟨(Lib.indexByte (c :: l) 10).toNat, by omega⟩
              have hN := lineN_some ho
              have hNle := lineN_le (c :: l)
              rw [hN] at hNle
              have HN := Lib.hid hN
              have ho1 : 1 ≤ o := by
                rcases Nat.eq_zero_or_pos o with h0 | h0
                · subst h0
                  obtain ⟨k1, _⟩ := Lib.indexByte_some (o := 0) ho
                  exact absurd (by simpa using k1) hc10.out
                · exact h0
              simp only [List.length_cons] at hNle
              rw [ho]
              clear hneg hge hN ho
              go_wp2_with fail
              go_roundg (s.length - (a + o))
              case measure => omega
              case rel =>
                rw [HN.out] at hst
                obtain ⟨m1, m2, m3⟩ := tok_move HS1.out (a' := a + o) (x := a + o) (by omega)
                obtain ⟨f', hf', hF'⟩ := rel_skip HF.out HD.out hst.out hf (by omega) ha
                exact ⟨a + o, f', v, out, by omega, hf', Lib.hid hF', by omega, Lib.hid m1, Lib.hid (m3 _ _ HR1.out), Lib.hid (HB1.out.trans m2)⟩
          | false =>
            go_wp2_with fail
            refine (letter_any c.toNat w1).mono ?_
            rintro e w2 ⟨rfl, rfl⟩
            cases h3 : letR c.toNat with
            | true =>
              go_wp2_with fail
              refine (run_lod (bs (c :: l)) w2).mono ?_
              rintro e w3 ⟨rfl, hb3⟩
              rw [bs_list]
              have hn1 := runN_pos (p := lodR) (l := l) (show lodR c.toNat = true by simp [lodR, h3])
              have hn2 := runN_le lodR (c :: l)
              have hst : Hid (step c l = .tok (wordK ((c :: l).take (runN lodR (c :: l)))) ((c :: l).take (runN lodR (c :: l))) (runN lodR (c :: l))) := Lib.hid (by simp [step, h1, Q35.out, h2, h3])
              obtain ⟨n, hn⟩ : ∃ n, runN lodR (c :: l) = n := ⟨_, rfl⟩
              rw [hn] at hn1 hn2 hst ⊢
              clear hn
              simp only [List.length_cons] at hn2
              have he2 : (bs (c :: l)).extract 0 n = bs ((c :: l).take n) := by rw [bs_extract]; simp
              have HS3 := Lib.hid (HS1.out.below hb3)
              have HR3 := Lib.hid (HR1.out.below hb3)
              have HB3 := Lib.hid (HB1.out.trans (hb3.mono HB1.out.size))
              clear hb3
              go_wp2_with fail
              refine (Tryd.slices_Contains_string (w.heap.size + 1) 0 29 29 (wordsL.map bs) (bs ((c :: l).take n)) w3 (by decide) (by omega) (words_cells HR3.out)).mono ?_
              rintro e w4 ⟨rfl, rfl⟩
              rw [words_has]
              cases hw : wordsL.contains ((c :: l).take n) with
              | true =>
                go_wp2_with fail
                refine (add_any w.heap.size w4 _ _ v out a HS3.out (by omega) (by omega) 2 n (by omega) ((c :: l).take n)).mono ?_
                rintro e w5 ⟨rfl, hb5, hk5, v5, hs5⟩
                have HR5 := Lib.hid (row_keep HR3.out HS3.out hk5)
                have HB5 := Lib.hid (HB3.out.trans hb5)
                have HS5 := Lib.hid hs5
                clear hb5 hk5 hs5
                go_wp2_with fail
                go_roundg (s.length - (a + n))
                case measure => omega
                case rel =>
                  obtain ⟨f', hf', hF'⟩ := rel_tok HF.out HD.out hst.out hf (by omega) ha
                  rw [show wordK ((c :: l).take n) = 2 by simp only [wordK, hw, if_true]] at hF'
                  exact ⟨a + n, f', v5, _, by omega, hf', Lib.hid hF', by rw [List.length_append]; simp; omega, HS5, HR5, HB5⟩
              | false =>
                go_wp2_with fail
                refine (add_any w.heap.size w4 _ _ v out a HS3.out (by omega) (by omega) 1 n (by omega) ((c :: l).take n)).mono ?_
                rintro e w5 ⟨rfl, hb5, hk5, v5, hs5⟩
                have HR5 := Lib.hid (row_keep HR3.out HS3.out hk5)
                have HB5 := Lib.hid (HB3.out.trans hb5)
                have HS5 := Lib.hid hs5
                clear hb5 hk5 hs5
                go_wp2_with fail
                go_roundg (s.length - (a + n))
                case measure => omega
                case rel =>
                  obtain ⟨f', hf', hF'⟩ := rel_tok HF.out HD.out hst.out hf (by omega) ha
                  rw [show wordK ((c :: l).take n) = 1 by simp only [wordK, hw]; rfl] at hF'
                  exact ⟨a + n, f', v5, _, by omega, hf', Lib.hid hF', by rw [List.length_append]; simp; omega, HS5, HR5, HB5⟩
            | false =>
              go_wp2_with fail
              refine (digit_any c.toNat w2).mono ?_
              rintro e w3 ⟨rfl, rfl⟩
              cases h4 : digR c.toNat with
              | true =>
                go_wp2_with fail
                refine (run_dig (bs (c :: l)) w3).mono ?_
                rintro e w4 ⟨rfl, hb4⟩
                rw [bs_list]
                have hn1 := runN_pos (p := digR) (l := l) h4
                have hn2 := runN_le digR (c :: l)
                have hst : Hid (step c l = .tok 3 (numT (c :: l) (runN digR (c :: l))) (runN digR (c :: l))) := Lib.hid (by simp [step, h1, Q35.out, h2, h3, h4])
                obtain ⟨m, hn⟩ : ∃ m, runN digR (c :: l) = m + 1 := ⟨runN digR (c :: l) - 1, by omega⟩
                rw [hn] at hn1 hn2 hst ⊢
                clear hn
                simp only [List.length_cons] at hn2
                have he2 : (bs (c :: l)).extract 0 m = bs ((c :: l).take m) := by rw [bs_extract]; simp
                have he3 : (bs (c :: l)).extract m (m + 1) = bs (((c :: l).take (m + 1)).drop m) := by rw [bs_extract, List.drop_take]
                have hsl1 : ∀ w : World, (Instr.slice 9 (.string (bs (c :: l))) none (some (.int .i64 m)) none).run Tryd.prog w = .ok (.string (bs ((c :: l).take m))) w := fun w => by
                  rw [run_slice_string_h w 9 _ Tryd.underlying9 .i64 m (by omega) (by rw [hsz2]; simp; omega), Int.toNat_natCast, he2]
                have hsl2 : ∀ w : World, (Instr.slice 9 (.string (bs (c :: l))) (some (.int .i64 m)) (some (.int .i64 ((m : Int) + 1))) none).run Tryd.prog w = .ok (.string (bs (((c :: l).take (m + 1)).drop m))) w := fun w => by
                  rw [run_slice_string_if w 9 _ .i64 .i64 m (m + 1) Tryd.underlying9, if_pos (by rw [hsz2]; simp; omega), if_pos (by omega), Int.toNat_natCast, show ((m : Int) + 1).toNat = m + 1 by omega, he3]
                have HS4 := Lib.hid (HS1.out.below hb4)
                have HR4 := Lib.hid (HR1.out.below hb4)
                have HB4 := Lib.hid (HB1.out.trans (hb4.mono HB1.out.size))
                clear hb4
                have hl1 : (((c :: l).take m).dropWhile (· == 48)).length ≤ m := Nat.le_trans (List.dropWhile_suffix _).length_le (List.length_take_le _ _)
                have hl2 : (((c :: l).take (m + 1)).drop m).length ≤ m + 1 := by rw [List.length_drop]; exact Nat.le_trans (Nat.sub_le _ _) (List.length_take_le _ _)
                have hno : ¬ ((9223372036854775807 : Int) < ((bs (((c :: l).take m).dropWhile (· == 48))).size : Int) + ((bs (((c :: l).take (m + 1)).drop m)).size : Int)) := by rw [bs_size, bs_size]; omega
                have hnt : bs (((c :: l).take m).dropWhile (· == 48)) ++ bs (((c :: l).take (m + 1)).drop m) = bs (numT (c :: l) (m + 1)) := by rw [bs_add]; rfl
                obtain ⟨Z, hZ⟩ : ∃ Z, numT (c :: l) (m + 1) = Z := ⟨_, rfl⟩
                obtain ⟨X, hX⟩ : ∃ X, (c :: l).take m = X := ⟨_, rfl⟩
                obtain ⟨Y, hY⟩ : ∃ Y, ((c :: l).take (m + 1)).drop m = Y := ⟨_, rfl⟩
                obtain ⟨V, hV⟩ : ∃ V, X.dropWhile (· == 48) = V := ⟨_, rfl⟩
                rw [hZ] at hst hnt
                rw [hX] at he2 hsl1 hno hnt
                rw [hY] at he3 hsl2 hno hnt
                rw [hV] at hno hnt
                have HV := Lib.hid hV
                clear hl1 hl2 hX hY hZ hV
                go_wp2_with fail
                have hwi : IntKind.i64.wrap (m : Int) = (m : Int) := by
                  rw [IntKind.wrap_i64]
                  omega
                have b0 : (0 : Int) ≤ (m : Int) := by omega
                have b1 : (m : Int) ≤ (l.length : Int) + 1 := by omega
                have b2 : (m : Int) ≤ (m : Int) + 1 := by omega
                have b3 : (m : Int) + 1 ≤ (l.length : Int) + 1 := by omega
                have hadd : ∀ w : World, (Op.stringOp .add (bs V) (bs Y)).run Tryd.prog w = .ok (.string (bs Z)) w := fun w => by
                  rw [run_string_add_sum w _ _ (by omega), hnt]
                go_region_held3 (fun _ => True) (exact trivial)
                  (first | (go_at_call 27; refine (Tryd.strings_TrimLeft_one (bs X) 48 (by decide) _).mono ?_; (intro e w5 hh); (obtain ⟨rfl, rfl⟩ := hh); rw [bs_list, show (⟨(Lib.trimLeftB X 48).toArray⟩ : ByteArray) = bs (X.dropWhile (· == 48)) from rfl, HV.out])
                         | (go_at_call 19; refine (add_any w.heap.size _ _ _ v out a (by exact HS4.out.of_heap rfl) (by omega) (by omega) 3 (m + 1) (by omega) Z).mono ?_; (rintro e w6 ⟨rfl, hb5, hk5, v5, hs5⟩)))
                have HR5 := Lib.hid (row_keep (HR4.out.of_heap rfl) (HS4.out.of_heap rfl) hk5)
                have HB5 := Lib.hid (Below.trans (HB4.out.drew) hb5)
                have HS5 := Lib.hid hs5
                clear hb5 hk5 hs5
                go_wp2_with fail
                go_roundg (s.length - (a + (m + 1)))
                case measure => omega
                case rel =>
                  obtain ⟨f', hf', hF'⟩ := rel_tok HF.out HD.out hst.out hf (by omega) ha
                  exact ⟨a + (m + 1), f', v5, _, by omega, hf', Lib.hid hF', by rw [List.length_append]; simp; omega, HS5, HR5, HB5⟩
              | false =>
                cases h5 : ((c.toNat : Int) == 34) with
                | true =>
                  obtain rfl : c = 34 := by
                    have := Q34.out
                    rw [h5] at this
                    simpa using this
                  go_wp2_with fail
                  refine (text_any l (by omega) w3).mono ?_
                  rintro e w4 ⟨rfl, rfl⟩
                  have h3' : letR ((34 : UInt8).toNat) = false := h3
                  have h4' : digR ((34 : UInt8).toNat) = false := h4
                  have hst : Hid (step 34 l = stepQ l) := Lib.hid (by unfold step; rw [h1, h3', h4']; rfl)
                  clear h3' h4'
                  cases hq : quo l with
                  | none =>
                    have HE := Lib.hid (rel_bad HF.out HD.out (e := 52) (by rw [hst.out]; simp only [stepQ, hq]) hf)
                    clear hq hst
                    simp only [textV]
                    go_wp2_with fail
                    go_quiet (fail)
                    go_wp2_with fail
                    show bodyPost Tryd.prog Tryd.f9 (TokPost w (toksF (s.length + 1) s 0 [])) .ret _ _
                    rw [HE.out]
                    go_ret3
                    exact ⟨below_drewN HB1.out _, rfl⟩
                  | some tn =>
                    obtain ⟨t, n⟩ := tn
                    obtain ⟨hq1, hq2, hq3⟩ := quo_le hq
                    have hst2 : Hid (step 34 l = .tok 4 t (n + 1)) := Lib.hid (by rw [hst.out]; simp only [stepQ, hq])
                    clear hq hst
                    simp only [textV]
                    go_wp2_with fail
                    refine (add_any w.heap.size w4 _ _ v out a HS1.out (by omega) (by omega) 4 (n + 1) (by omega) t).mono ?_
                    rintro e w5 ⟨rfl, hb5, hk5, v5, hs5⟩
                    have HR5 := Lib.hid (row_keep HR1.out HS1.out hk5)
                    have HB5 := Lib.hid (HB1.out.trans hb5)
                    have HS5 := Lib.hid hs5
                    clear hb5 hk5 hs5
                    go_wp2_with fail
                    go_roundg (s.length - (a + (n + 1)))
                    case measure => omega
                    case rel =>
                      obtain ⟨f', hf', hF'⟩ := rel_tok HF.out HD.out hst2.out hf (by omega) ha
                      exact ⟨a + (n + 1), f', v5, _, by omega, hf', Lib.hid hF', by rw [List.length_append]; simp; omega, HS5, HR5, HB5⟩
                | false =>
                  go_wp2_with fail
                  refine (signs_any w3).mono ?_
                  rintro e w4 ⟨rfl, rfl⟩
                  have hst : Hid (step c l = stepS (c :: l)) := Lib.hid (by simp [step, h1, Q35.out, h2, h3, h4, Q34.out, h5])
                  have hb4 : Below w3.heap.size w3 (w3.alloc (rowC signsL)) := (Below.refl _ _).alloc (Nat.le_refl _) _
                  have HS4 := Lib.hid (HS1.out.below hb4)
                  have HR4 := Lib.hid (HR1.out.below hb4)
                  have HB4 := Lib.hid (HB1.out.trans (hb4.mono HB1.out.size))
                  have HG4 := Lib.hid (show RowAt (w3.alloc (rowC signsL)) w3.heap.size signsL from heap_alloc_new _ _)
                  obtain ⟨kp, fp, ko⟩ := HS4.out.facts
                  obtain ⟨gs, hgs⟩ : ∃ gs, w3.heap.size = gs := ⟨_, rfl⟩
                  rw [hgs] at HG4 ⊢
                  clear hb4 hgs
                  obtain ⟨w5, hw5⟩ : ∃ w5, w3.alloc (rowC signsL) = w5 := ⟨_, rfl⟩
                  rw [hw5] at HS4 HR4 HB4 HG4 kp fp ko ⊢
                  clear hw5
                  go_wp2_with fail
                  go_loopg [106] 27 (fun g i wr2 => ∃ q : Nat, q + g = 27 ∧ i = .int .i64 q ∧ Hid (wr2 = w5) ∧ Hid (∀ j x, j < q → signsL[j]? = some x → x.isPrefixOf (c :: l) = false))
                  case atStart => exact ⟨0, by omega, rfl, Lib.hid rfl, Lib.hid (fun j x hj => by omega)⟩
                  case round =>
                    obtain ⟨q, hqg, rfl, hww, HQ⟩ := hrel
                    obtain rfl := hww.out
                    clear hww
                    by_cases hq : q < 27
                    · obtain ⟨x, hx⟩ : ∃ x, signsL[q]? = some x := ⟨_, List.getElem?_eq_getElem (show q < signsL.length from hq)⟩
                      have hcx := HG4.out.cell hx
                      have hx2 := signs_len x (List.mem_of_getElem? hx)
                      have hxs := bs_size x
                      have HX := Lib.hid hx
                      clear hx
                      obtain ⟨wo, hwo⟩ : ∃ wo : World, wo = wr := ⟨_, rfl⟩
                      go_wp2_with fail
                      refine (Tryd.strings_HasPrefix (bs (c :: l)) (bs x) _).mono ?_
                      rintro e w6 ⟨rfl, rfl⟩
                      rw [bs_list, bs_list, show Lib.hasPrefix (c :: l) x = x.isPrefixOf (c :: l) from rfl]
                      cases hp : x.isPrefixOf (c :: l) with
                      | true =>
                        have hso : Hid (signOf (c :: l) = some x) := Lib.hid (sign_at HX.out hp HQ.out)
                        go_wp2_with fail
                        refine (add_any w.heap.size _ _ _ v out a HS4.out (by omega) (by omega) 5 x.length (by omega) x).mono ?_
                        rintro e w7 ⟨rfl, hb5, hk5, v5, hs5⟩
                        have hst2 : Hid (step c l = .tok 5 x x.length) := Lib.hid (by rw [hst.out]; simp only [stepS, hso.out])
                        have hxl := prefix_len hp
                        simp only [List.length_cons] at hxl
                        have HR5 := Lib.hid (row_keep HR4.out HS4.out hk5)
                        have HB5 := Lib.hid (HB4.out.trans hb5)
                        have HS5 := Lib.hid hs5
                        clear hb5 hk5 hs5
                        go_wp2_with fail
                        go_roundg (s.length - (a + x.length))
                        case measure => omega
                        case rel =>
                          obtain ⟨f', hf', hF'⟩ := rel_tok HF.out HD.out hst2.out hf (by omega) ha
                          exact ⟨a + x.length, f', v5, _, by omega, hf', Lib.hid hF', by rw [List.length_append]; simp; omega, HS5, HR5, HB5⟩
                      | false =>
                        go_wp2_with fail
                        go_roundg (27 - (q + 1))
                        case measure => omega
                        case rel =>
                          refine ⟨q + 1, by omega, by go_num, Lib.hid rfl, Lib.hid (fun j y hj hy => ?_)⟩
                          rcases Nat.lt_succ_iff_lt_or_eq.1 hj with h | h
                          · exact HQ.out j y h hy
                          · subst h
                            have := HX.out
                            rw [hy] at this
                            injection this with this
                            rw [this]; exact hp
                    · obtain rfl : q = 27 := by omega
                      have hst2 : Hid (step c l = .bad 51) := Lib.hid (by rw [hst.out]; simp only [stepS, sign_no HQ.out])
                      have HE := Lib.hid (rel_bad HF.out HD.out hst2.out hf)
                      go_wp2_with fail
                      go_quiet (fail)
                      go_wp2_with fail
                      show bodyPost Tryd.prog Tryd.f9 (TokPost w (toksF (s.length + 1) s 0 [])) .ret _ _
                      rw [HE.out]
                      go_ret3
                      exact ⟨below_drewN HB4.out _, rfl⟩
      · obtain rfl : a = s.length := by omega
        have HE := Lib.hid (rel_end HF.out hf (Nat.le_refl _))
        go_wp2_with fail
        refine (add_any w.heap.size _ _ _ v out s.length HS.out (by omega) (by omega) 0 0 (by omega) []).mono ?_
        rintro e w7 ⟨rfl, hb5, hk5, v5, hs5⟩
        have HB5 := Lib.hid (HB.out.trans hb5)
        have HS5 := Lib.hid hs5
        obtain ⟨kp, fp, ko⟩ := hs5.facts
        obtain ⟨A5, c5, rfl⟩ := own_form hs5.2.2.2.2
        clear hb5 hk5 hs5
        go_wp2_with fail
        show bodyPost Tryd.prog Tryd.f9 (TokPost w (toksF (s.length + 1) s 0 [])) .ret _ _
        rw [HE.out]
        go_ret3
        exact ⟨HB5.out, A5, c5, by rw [List.length_append]; rfl, HS5.out.2.2.2.2⟩
end Go.Proofs.YtenbcmlacmepgaaDoor
