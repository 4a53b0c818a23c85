/- lex.text: what a quoted text says and how long it is; of every list of bytes that is shorter than 2^32 - 15. -/
import Derived.Test.YtenbcmlacmepgaaDoorA
import Derived.LoopTactic
import Derived.Lib.IndexLaws
namespace Go.Proofs.YtenbcmlacmepgaaDoor
open Go.RowKit

/-- Bytes as a string. -/
def bs (l : List UInt8) : ByteArray := ⟨l.toArray⟩
theorem bs_list (l : List UInt8) : (bs l).data.toList = l := by simp [bs]
theorem bs_of (s : ByteArray) : bs s.data.toList = s := by simp [bs]
theorem bs_size (l : List UInt8) : (bs l).size = l.length := by simp [bs, ByteArray.size]
theorem bs_add (a b : List UInt8) : bs a ++ bs b = bs (a ++ b) := by
  simp [bs, ByteArray.ext_iff]
theorem bs_extract (l : List UInt8) (a b : Nat) : (bs l).extract a b = bs ((l.drop a).take (b - a)) := by
  simp [bs, ByteArray.ext_iff]
theorem bs_get (l : List UInt8) (i : Nat) (h : i < (bs l).size) : (bs l)[i] = l[i]'(by rw [bs_size] at h; exact h) := by
  simp [bs, ByteArray.getElem_eq_getElem_data]
theorem bs_at {l : List UInt8} {i : Nat} {c : UInt8} (h : l[i]? = some c) (h' : i < (bs l).size) : (bs l)[i]'h' = c := by
  rw [bs_get]
  exact (List.getElem?_eq_some_iff.1 h).2
theorem add_run (a b : ByteArray) (h : a.size + b.size ≤ 100000000) : ∀ w : World, (Op.stringOp .add a b).run Tryd.prog w = .ok (.string (a ++ b)) w := fun w => run_string_add_sum w a b (by omega)

/-- Behind a quote: what the text says, and how many bytes are read up to the quote that ends it. -/
def quo : List UInt8 → Option (List UInt8 × Nat)
  | [] => none
  | c :: l => if c = 34 then (match l with
    | [] => some ([], 1)
    | d :: r => if d = 34 then (quo r).map (fun p => (34 :: p.1, p.2 + 2)) else some ([], 1))
    else (quo l).map (fun p => (c :: p.1, p.2 + 1))

theorem quo_none {l : List UInt8} (h : ∀ k : Nat, l[k]? ≠ some 34) : quo l = none := by
  induction l with
  | nil => rfl
  | cons c l ih =>
    have hc : c ≠ 34 := fun e => h 0 (by simp [e])
    rw [quo.eq_def]
    simp only [hc, if_false]
    rw [ih (fun k => by have := h (k + 1); simpa using this)]
    rfl
theorem quo_at {l : List UInt8} {o : Nat} (ho : l[o]? = some 34) (h : ∀ k, k < o → l[k]? ≠ some 34) :
    quo l = if l[o + 1]? = some 34 then (quo (l.drop (o + 2))).map (fun p => (l.take o ++ 34 :: p.1, o + 2 + p.2)) else some (l.take o, o + 1) := by
  induction l generalizing o with
  | nil => simp at ho
  | cons c l ih =>
    cases o with
    | zero =>
      have hc : c = 34 := by simpa using ho
      rw [quo.eq_def]
      simp only [hc, if_true]
      cases l with
      | nil => simp
      | cons d r =>
        by_cases hd : d = 34
        · simp [hd, Nat.add_comm]
        · simp [hd]
    | succ o =>
      have hc : c ≠ 34 := fun e => h 0 (by omega) (by simp [e])
      rw [quo.eq_def]
      simp only [hc, if_false]
      rw [ih (o := o) (by simpa using ho) (fun k hk => by have := h (k + 1) (by omega); simpa using this)]
      simp only [List.getElem?_cons_succ, List.drop_succ_cons, List.take_succ_cons]
      by_cases hd : l[o + 1]? = some 34
      · rw [if_pos hd, if_pos hd, Option.map_map]
        congr 1
        funext p
        simp
        omega
      · rw [if_neg hd, if_neg hd]
        rfl
theorem drop_at (l : List UInt8) (k j : Nat) : (l.drop k)[j]? = l[k + j]? := by simp

theorem ret_val {a b : Value} (h : a = b) : Ending.returned a = Ending.returned b := by rw [h]
def textV : Option (List UInt8 × Nat) → Value
  | some (t, n) => .tuple #[.int .i64 (n + 1 : Nat), .string (bs t), .bool true]
  | none => .tuple #[.int .i64 0, .string (bs []), .bool false]
set_option maxHeartbeats 2000000 in
theorem text_any (l : List UInt8) (hl : l.length ≤ 100000) (w : World) : Calls Tryd.prog 28 #[.string (bs (34 :: l))] w fun e w' => e = .returned (textV (quo l)) ∧ w' = w := by
  go_enter Tryd.func28, Tryd.ntmps28
  go_wp2_with fail
  go_loopw [5, 6] (fun o i wr => ∃ (acc : List UInt8) (k : Nat), o = .string (bs acc) ∧ i = .int .i64 (k + 1 : Nat) ∧ k ≤ l.length ∧ acc.length ≤ k ∧ quo l = (quo (l.drop k)).map (fun p => (acc ++ p.1, k + p.2)) ∧ Hid (wr = w)) (fun _ i _ => l.length + 1 - (intOf i).toNat)
  case atStart => exact ⟨[], 0, rfl, rfl, Nat.zero_le _, Nat.zero_le _, by simp, Lib.hid rfl⟩
  case round =>
    obtain ⟨acc, k, rfl, rfl, hk, ha, hq, hw⟩ := hrel
    obtain rfl := hw.out
    have hsz := bs_size (34 :: l)
    have he : (bs (34 :: l)).extract (k + 1) (l.length + 1) = bs (l.drop k) := by rw [bs_extract, List.take_of_length_le (by simp)]; simp
    have HQ := Lib.hid hq
    clear hq
    go_wp2_with fail
    refine (Tryd.strings_IndexByte _ 34 wr).mono ?_
    rintro e w1 ⟨rfl, rfl⟩
    rw [bs_list, show (34 : Int).toNat.toUInt8 = 34 from rfl]
    have hge := Lib.indexByte_ge (l.drop k) 34
    by_cases hneg : Lib.indexByte (l.drop k) 34 = -1
    · have HN := Lib.hid (quo_none (Lib.indexByte_none hneg))
      rw [hneg]
      clear hneg hge
      go_wp2_with fail
      go_ret3
      rw [HQ.out, HN.out]
      exact ⟨rfl, rfl⟩
    · obtain ⟨o, ho⟩ : ∃ o : Nat, Lib.indexByte (l.drop k) 34 = o := ⟨(Lib.indexByte (l.drop k) 34).toNat, by omega⟩
      obtain ⟨h1, h2⟩ := Lib.indexByte_some ho
      have HA := Lib.hid (quo_at h1 h2)
      rw [ho]
      clear hneg hge ho h2
      have hko : k + o < l.length := by
        have := (List.getElem?_eq_some_iff.1 h1).1
        simp at this; omega
      have he2 : (bs (34 :: l)).extract (k + 1) (k + 1 + o) = bs ((l.drop k).take o) := by rw [bs_extract]; simp
      have hs2 := bs_size ((l.drop k).take o)
      have hs3 := bs_size acc
      rw [List.length_take, List.length_drop, Nat.min_eq_left (by omega)] at hs2
      have hadd := add_run (bs acc) (bs ((l.drop k).take o)) (by omega)
      rw [bs_add] at hadd
      have hdr : (l.drop k)[o + 1]? = l[k + (o + 1)]? := by simp
      rw [hdr] at HA
      have hdd : (l.drop k).drop (o + 2) = l.drop (k + (o + 2)) := by simp
      rw [hdd] at HA
      clear h1 hdr hdd
      by_cases hend : l.length = k + (o + 1)
      · have hno : ¬ l[k + (o + 1)]? = some 34 := by rw [List.getElem?_eq_none (by omega)]; simp
        have HN := Lib.hid hno
        clear hno
        go_wp2_with fail
        go_ret3
        rw [HQ.out, HA.out, if_neg HN.out]
        refine ⟨ret_val ?_, rfl⟩
        simp [textV]
      · obtain ⟨c, hc⟩ : ∃ c, l[k + (o + 1)]? = some c := ⟨_, List.getElem?_eq_getElem (by omega)⟩
        have hgc : ∀ h : k + 1 + (o + 1) < (bs (34 :: l)).size, (bs (34 :: l))[k + 1 + (o + 1)]'h = c := by
          exact fun h => bs_at (by rw [show k + 1 + (o + 1) = (k + (o + 1)) + 1 by omega]; simpa using hc) h
        by_cases h34 : c = 34
        · have HN : Hid (l[k + (o + 1)]? = some 34) := Lib.hid (by rw [← h34]; exact hc)
          have e1 : ((k : Int) + 1 + ((o : Int) + 1) == (l.length : Int) + 1) = false := by simp; omega
          have e2 : ∀ h, (((bs (34 :: l))[k + 1 + (o + 1)]'h).toNat : Int) = 34 := fun h => by rw [hgc h, h34]; rfl
          have hs5 := bs_size (acc ++ (l.drop k).take o)
          rw [List.length_append, List.length_take, List.length_drop, Nat.min_eq_left (by omega)] at hs5
          have hadd2 := add_run (bs (acc ++ (l.drop k).take o)) ⟨#[34]⟩ (by rw [hs5]; show _ + 1 ≤ _; omega)
          rw [show (⟨#[34]⟩ : ByteArray) = bs [34] from rfl, bs_add] at hadd2
          clear hc hgc h34
          go_wp2_with fail
          go_roundw
          case rel =>
            refine ⟨acc ++ (l.drop k).take o ++ [34], k + (o + 2), rfl, by go_num, by omega, by simp; omega, ?_, by first | exact Lib.hid rfl | exact Lib.hid trivial⟩
            rw [HQ.out, HA.out, if_pos HN.out, Option.map_map]
            congr 1
            funext p
            simp
            omega
          case measure => simp [intOf]; omega
        · have HN : Hid (¬ l[k + (o + 1)]? = some 34) := Lib.hid (by rw [hc]; simp [h34])
          have e1 : ((k : Int) + 1 + ((o : Int) + 1) == (l.length : Int) + 1) = false := by simp; omega
          have e2 : ∀ h, ((((bs (34 :: l))[k + 1 + (o + 1)]'h).toNat : Int) != 34) = true := fun h => by rw [hgc h]; simp; intro hh; exact h34 (UInt8.toNat_inj.1 (by have : (34 : UInt8).toNat = 34 := rfl; omega))
          clear hc hgc h34
          go_wp2_with fail
          go_ret3
          rw [HQ.out, HA.out, if_neg HN.out]
          refine ⟨ret_val ?_, rfl⟩
          simp [textV]
          omega
end Go.Proofs.YtenbcmlacmepgaaDoor
