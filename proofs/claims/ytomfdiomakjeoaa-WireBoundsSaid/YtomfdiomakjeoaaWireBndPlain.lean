/- Plain facts on the bounds of numbers and lengths: fields of great texts, many words. -/
import Derived.Test.YtomfdiomakjeoaaWireRows
import Derived.Test.YtomfdiomakjeoaaWireShort
import Derived.Test.YtomfdiomakjeoaaWireUnpack
namespace Go.Proofs.Ytomfdiomakjeoaa
open Go.RowKit

theorem vput_len3 {x : Nat} (h1 : 16384 ≤ x) (h2 : x < 2097152) : (vput x).length = 3 := by
  rw [vput_ge (by omega), vput_ge (x := x / 128) (by omega), vput_lt (x := x / 128 / 128) (by omega)]
  rfl
theorem told_text (m : Nat) (bs : List UInt8) : told ⟨(m : Int), 2, 0, bs⟩ = vput (8 * m + 2) ++ (vput bs.length ++ bs) := by
  unfold told
  dsimp only
  rw [if_neg (by decide), if_neg (by decide)]
  rfl
theorem told_long (bs : List UInt8) (h1 : 16384 ≤ bs.length) (h2 : bs.length < 2097152) : (told ⟨((1 : Nat) : Int), 2, 0, bs⟩).length = bs.length + 4 := by
  rw [told_text, List.length_append, List.length_append, vput_len3 h1 h2, vput_lt (x := 8 * 1 + 2) (by decide)]
  show 1 + (3 + bs.length) = _
  omega
theorem may_text (bs : List UInt8) : mayB ⟨((1 : Nat) : Int), 2, 0, bs⟩ = true := rfl
theorem bytes_one {f : Fd} (hm : mayB f = true) (hl : (told f).length ≤ 1048576) : bytesOf [f] = (told f, 0) := by
  have ht : tolds [f] = told f := by unfold tolds; simp
  unfold bytesOf
  rw [if_pos (by simp [hm]), ht, if_pos hl]
theorem bytes_one_long {f : Fd} (hm : mayB f = true) (hl : 1048576 < (told f).length) : bytesOf [f] = ([], 3) := by
  have ht : tolds [f] = told f := by unfold tolds; simp
  unfold bytesOf
  rw [if_pos (by simp [hm]), ht, if_neg (by omega)]
theorem bytes_bad {f g : Fd} (hg : mayB g = false) : bytesOf [f, g] = ([], 2) := by
  unfold bytesOf
  rw [if_neg (by simp [hg])]
theorem fields_one {f : Fd} (hok : f.Ok) (hm : mayB f = true) (hl : (told f).length ≤ 1048576) : fieldsOf (told f) = ([f], 0) := by
  have ht : tolds [f] = told f := by unfold tolds; simp
  have h := rdAll_tolds [f] ((told f).length + 1) (by rw [ht]; omega) (by omega) (by intro g hg; rw [List.mem_singleton.1 hg]; exact hok) (by simp [hm])
  rw [ht] at h
  exact fieldsOf_of hl h
theorem fields_long {l : List UInt8} (hl : 1048576 < l.length) : fieldsOf l = ([], 3) := by unfold fieldsOf; rw [if_pos hl]
theorem vtake_zero (l : List UInt8) : vtake (0 :: l) = some (0, 1) := rfl
theorem unAll_zeros (n : Nat) : ∀ k, n < k → unAll 0 k (List.replicate n 0) = some (List.replicate n 0) := by
  induction n with
  | zero => intro k hk; obtain ⟨m, rfl⟩ : ∃ m, k = m + 1 := ⟨k - 1, by omega⟩; exact unAll_nil 0 m
  | succ n ih =>
    intro k hk
    obtain ⟨m, rfl⟩ : ∃ m, k = m + 1 := ⟨k - 1, by omega⟩
    rw [List.replicate_succ, unAll_cons (by simp)]
    have h : rdWord 0 ((0 : UInt8) :: List.replicate n 0) = some (0, 1) := by unfold rdWord; rw [if_pos rfl, vtake_zero]
    rw [h]
    dsimp only
    rw [List.drop_one, List.tail_cons, ih m (by omega)]
    rfl
theorem unpack_zeros (n : Nat) (hn : n ≤ 1048576) : unpackOf 0 (List.replicate n 0) = (List.replicate n 0, 0) := by
  unfold unpackOf
  rw [List.length_replicate, if_neg (by omega), if_pos (.inl rfl), unAll_zeros n _ (by omega)]
theorem unpack_long (t : Int) {l : List UInt8} (hl : 1048576 < l.length) : unpackOf t l = ([], 3) := by unfold unpackOf; rw [if_pos hl]
theorem words_zeros (n : Nat) : (wordsB 1 (List.replicate n 0)).length = 8 * n := by
  induction n with
  | zero => rfl
  | succ n ih =>
    rw [List.replicate_succ]
    show (wordB 1 0 ++ wordsB 1 (List.replicate n 0)).length = _
    rw [List.length_append, ih]
    show 8 + _ = _
    omega
theorem fit_zeros (n : Nat) : (List.replicate n 0).all (fitB 1) = true := by
  rw [List.all_eq_true]
  intro x hx
  rw [List.eq_of_mem_replicate hx]
  rfl
theorem pack_zeros (n : Nat) (hn : 8 * n ≤ 1048576) : packOf 1 (List.replicate n 0) = (wordsB 1 (List.replicate n 0), 0) := by
  unfold packOf
  rw [if_pos ⟨.inr (.inl rfl), fit_zeros n⟩, if_pos (by rw [words_zeros]; exact hn)]
theorem pack_zeros_long (n : Nat) (hn : 1048576 < 8 * n) : packOf 1 (List.replicate n 0) = ([], 3) := by
  unfold packOf
  rw [if_pos ⟨.inr (.inl rfl), fit_zeros n⟩, if_neg (by rw [words_zeros]; omega)]
theorem vput_top : (vput 4294967288).length = 5 := by
  rw [vput_ge (by decide), vput_ge (x := 4294967288 / 128) (by decide), vput_ge (x := 4294967288 / 128 / 128) (by decide), vput_ge (x := 4294967288 / 128 / 128 / 128) (by decide), vput_lt (x := 4294967288 / 128 / 128 / 128 / 128) (by decide)]
  rfl
theorem vput_max : (vput 18446744073709551615).length = 10 := by
  rw [vput_ge (by decide), vput_ge (x := 18446744073709551615 / 128) (by decide), vput_ge (x := 18446744073709551615 / 128 / 128) (by decide), vput_ge (x := 18446744073709551615 / 128 / 128 / 128) (by decide),
    vput_ge (x := 18446744073709551615 / 128 / 128 / 128 / 128) (by decide), vput_ge (x := 18446744073709551615 / 128 / 128 / 128 / 128 / 128) (by decide), vput_ge (x := 18446744073709551615 / 128 / 128 / 128 / 128 / 128 / 128) (by decide),
    vput_ge (x := 18446744073709551615 / 128 / 128 / 128 / 128 / 128 / 128 / 128) (by decide), vput_ge (x := 18446744073709551615 / 128 / 128 / 128 / 128 / 128 / 128 / 128 / 128) (by decide), vput_lt (x := 18446744073709551615 / 128 / 128 / 128 / 128 / 128 / 128 / 128 / 128 / 128) (by decide)]
  rfl
def topF : Fd := ⟨536870911, 0, 18446744073709551615, []⟩
theorem topF_ok : topF.Ok := ⟨by decide, by decide, by decide, by decide, by decide⟩
theorem topF_may : mayB topF = true := rfl
theorem topF_len : (told topF).length = 15 := by
  have e : 8 * (536870911 : Int).toNat + (0 : Int).toNat = 4294967288 := by decide
  unfold told topF
  dsimp only
  rw [if_pos rfl, e, List.length_append, vput_top, vput_max]
theorem take_over : vval [128, 128, 128, 128, 128, 128, 128, 128, 128, 2] = 0 ∧ vlen [128, 128, 128, 128, 128, 128, 128, 128, 128, 2] = 0 ∧ verr [128, 128, 128, 128, 128, 128, 128, 128, 128, 2] = 270 := ⟨by decide, by decide, by decide⟩
theorem take_rep {α : Type} (n k : Nat) (x : α) (h : k ≤ n) : (List.replicate n x).take k = List.replicate k x := by rw [List.take_replicate, Nat.min_eq_left h]
end Go.Proofs.Ytomfdiomakjeoaa
