/- lexiconref14.in: is a byte among some? A function whose answer is known ahead. -/
import Derived.Test.YtnpdnlnglahicaaGreatDoorEvTop
import Derived.Test.YtnpdnlnglahicaaGreatDoorProg
namespace Go.Proofs.YtnpdnlnglahicaaGreatDoor
open Go.RowKit

/-- Is a number among bytes? -/
def inBy (c : Int) : List UInt8 → Bool
  | [] => false
  | b :: r => match decide ((b.toNat : Int) = c) with
    | true => true
    | false => inBy c r
theorem inBy_take {c : Int} {l : List UInt8} {k : Nat} (h : k < l.length) (h0 : inBy c (l.take k) = false) : (((l[k].toNat : Nat) : Int) = c → inBy c l = true) ∧ (((l[k].toNat : Nat) : Int) ≠ c → inBy c (l.take (k + 1)) = false) := by
  have key : ∀ a b : List UInt8, inBy c (a ++ b) = (inBy c a || inBy c b) := by
    intro a b
    induction a with
    | nil => rfl
    | cons x a ih =>
      simp only [List.cons_append, inBy]
      split
      · rfl
      · exact ih
  constructor
  · intro e
    rw [← List.take_append_drop k l, key, h0, List.drop_eq_getElem_cons h]
    simp [inBy, e]
  · intro e
    rw [List.take_succ_eq_append_getElem h, key, h0]
    simp [inBy, e]
set_option maxRecDepth 100000 in
theorem in_any (c : Int) (S : ByteArray) (w : World) (hs : S.size ≤ 140737488355328) : Calls Tryz.prog 149 #[.int .u8 c, .string S] w fun e w' => e = .returned (.bool (inBy c S.data.toList)) ∧ w' = w := by
  obtain ⟨l, hl⟩ : ∃ l, S.data.toList = l := ⟨_, rfl⟩
  obtain ⟨n, hn⟩ : ∃ n, S.size = n := ⟨_, rfl⟩
  have hln : n = l.length := by rw [← hn, ← hl]; exact (Array.length_toList).symm
  have HG : ∀ k (h : k < S.size) (h2 : k < l.length), S[k]'h = l[k]'h2 := fun k h h2 => by subst hl; rfl
  obtain ⟨R, hR⟩ : ∃ R, inBy c l = R := ⟨_, rfl⟩
  have HG := Lib.hid HG
  have HLN := Lib.hid hln
  have HR := Lib.hid hR
  have hn2 : n ≤ 140737488355328 := by omega
  rw [hl, hR]
  clear hl hln hR
  go_enter Tryz.func149, Tryz.ntmps149
  go_wp2
  go_loopw [5] (fun i wr => wr = w ∧ ∃ k : Nat, k ≤ n ∧ i = .int .i64 (k : Int) ∧ inBy c (l.take k) = false) (fun i _ => n - (intOf i).toNat)
  case atStart => exact ⟨rfl, 0, Nat.zero_le _, rfl, rfl⟩
  case round =>
    obtain ⟨rfl, k, hk, rfl, hno⟩ := hrel
    have HNO := Lib.hid hno
    clear hno
    by_cases hkn : k < n
    · have hkl : k < l.length := by rw [← HLN.out]; exact hkn
      have hst := inBy_take hkl HNO.out
      obtain ⟨b, hb⟩ : ∃ b, l[k] = b := ⟨_, rfl⟩
      have hg : ∀ h : k < S.size, S[k]'h = b := fun h => by rw [HG.out k h hkl, hb]
      rw [hb] at hst
      have HST := Lib.hid hst
      clear hst hb hkl
      by_cases he : ((b.toNat : Nat) : Int) = c
      · have HV : Hid (R = true) := by show _ = _; rw [← HR.out]; exact HST.out.1 he
        go_wp2
        go_ret
        rw [HV.out]
        exact ⟨rfl, rfl⟩
      · have HV := Lib.hid (HST.out.2 he)
        go_wp2
        refine ⟨⟨trivial, k + 1, by omega, by go_num, HV.out⟩, by simp [intOf]; omega⟩
    · have hk3 : k = n := by omega
      subst hk3
      have HV : Hid (R = false) := by
        have h := HNO.out
        rw [HLN.out, List.take_length] at h
        show _ = _
        rw [← HR.out]
        exact h
      go_wp2
      go_ret
      rw [HV.out]
      exact ⟨rfl, rfl⟩
/-- How many bytes at the beginning are among some. -/
def runN (ll : List UInt8) : List UInt8 → Nat
  | [] => 0
  | b :: r => match inBy (b.toNat : Int) ll with
    | true => runN ll r + 1
    | false => 0
set_option maxRecDepth 100000 in
theorem run_any (S L : ByteArray) (at_ : Nat) (w : World) (hs : S.size ≤ 1000000) (hl : L.size ≤ 1000000) (hat : at_ ≤ 1000000) : Calls Tryz.prog 150 #[.string S, .int .i64 (at_ : Int), .string L] w fun e w' => e = .returned (.int .i64 ((at_ + runN L.data.toList (S.data.toList.drop at_) : Nat) : Int)) ∧ w' = w := by
  obtain ⟨s, hS⟩ : ∃ s, S.data.toList = s := ⟨_, rfl⟩
  obtain ⟨l, hL⟩ : ∃ l, L.data.toList = l := ⟨_, rfl⟩
  obtain ⟨n, hn⟩ : ∃ n, S.size = n := ⟨_, rfl⟩
  have hln : n = s.length := by rw [← hn, ← hS]; exact (Array.length_toList).symm
  have HG : ∀ k (h : k < S.size) (h2 : k < s.length), S[k]'h = s[k]'h2 := fun k h h2 => by subst hS; rfl
  obtain ⟨R, hR⟩ : ∃ R, at_ + runN l (s.drop at_) = R := ⟨_, rfl⟩
  have HIN : Hid (∀ (c : Int), Calls Tryz.prog 149 #[.int .u8 c, .string L] w fun e w' => e = .returned (.bool (inBy c l)) ∧ w' = w) := fun c => by rw [← hL]; exact in_any c L w (by omega)
  have HG := Lib.hid HG
  have HLN := Lib.hid hln
  have HR := Lib.hid hR
  have hn2 : n ≤ 1000000 := by omega
  rw [hS, hL, hR]
  clear hS hL hln hR
  go_enter Tryz.func150, Tryz.ntmps150
  go_wp2
  go_loopw [1] (fun i wr => wr = w ∧ ∃ k : Nat, k ≤ 1000000 ∧ i = .int .i64 (k : Int) ∧ k + runN l (s.drop k) = R) (fun i _ => n - (intOf i).toNat)
  case atStart => exact ⟨rfl, at_, hat, rfl, HR.out⟩
  case round =>
    obtain ⟨rfl, k, hk, rfl, hrun⟩ := hrel
    have HRUN := Lib.hid hrun
    clear hrun
    by_cases hkn : k < n
    · have hkl : k < s.length := by rw [← HLN.out]; exact hkn
      have hst : (inBy (s[k].toNat : Int) l = true → runN l (s.drop k) = runN l (s.drop (k + 1)) + 1) ∧ (inBy (s[k].toNat : Int) l = false → runN l (s.drop k) = 0) := by
        constructor
        · intro h; rw [List.drop_eq_getElem_cons hkl]; simp only [runN]; rw [h]
        · intro h; rw [List.drop_eq_getElem_cons hkl]; simp only [runN]; rw [h]
      obtain ⟨b, hb⟩ : ∃ b, s[k] = b := ⟨_, rfl⟩
      have hg : ∀ h : k < S.size, S[k]'h = b := fun h => by rw [HG.out k h hkl, hb]
      rw [hb] at hst
      have HST := Lib.hid hst
      clear hst hb hkl
      cases hi : inBy (b.toNat : Int) l with
      | true =>
        have HV : Hid ((k + 1) + runN l (s.drop (k + 1)) = R) := by
          have h := HST.out.1 hi
          have h2 := HRUN.out
          show _ = _
          omega
        have HC := HIN.out (b.toNat : Int)
        rw [hi] at HC
        have HC := Lib.hid HC
        clear hi
        go_wp2_with (first | (go_at_call 149; refine HC.out.mono ?_; rintro e _ ⟨rfl, rfl⟩))
        refine ⟨⟨trivial, k + 1, by omega, by go_num, HV.out⟩, by simp [intOf]; omega⟩
      | false =>
        have HV : Hid (R = k) := by
          have h := HST.out.2 hi
          have h2 := HRUN.out
          show _ = _
          omega
        have HC := HIN.out (b.toNat : Int)
        rw [hi] at HC
        have HC := Lib.hid HC
        clear hi
        go_wp2_with (first | (go_at_call 149; refine HC.out.mono ?_; rintro e _ ⟨rfl, rfl⟩))
        go_ret
        rw [HV.out]
        exact ⟨rfl, rfl⟩
    · have HV : Hid (R = k) := by
        have h := HRUN.out
        rw [List.drop_eq_nil_of_le (by rw [← HLN.out]; omega)] at h
        exact h.symm
      go_wp2
      go_ret
      rw [HV.out]
      exact ⟨rfl, rfl⟩
noncomputable def knLex (g : FuncId) (args : List AV) : Option AV := match Nat.beq g 149 with
  | true => match args with
    | [.v (.int .u8 c), .v (.string s)] => match Nat.ble s.size 1000000 with
      | true => some (.v (.bool (inBy c s.data.toList)))
      | false => none
    | _ => none
  | false => match Nat.beq g 150 with
    | true => match args with
      | [.v (.string s), .v (.int .i64 (.ofNat k)), .v (.string l)] => match Nat.ble s.size 1000000 with
        | true => match Nat.ble l.size 1000000 with
          | true => match Nat.ble k 1000000 with
            | true => some (.v (.int .i64 (.ofNat (Nat.add k (runN l.data.toList (s.data.toList.drop k))))))
            | false => none
          | false => none
        | false => none
      | _ => none
    | false => none
theorem knLex_ok : KnOk Tryz.prog knLex := by
  intro g args v h ρ xs w hr
  unfold knLex at h
  split at h
  · rename_i hg
    obtain rfl := Nat.eq_of_beq_eq_true hg
    split at h
    case h_2 => cases h
    rename_i c s
    split at h
    case h_2 => cases h
    rename_i hs
    have hs := Nat.le_of_ble_eq_true hs
    obtain rfl := Option.some.inj h
    have hx : xs = #[.int .u8 c, .string s] := by
      apply Array.ext'
      exact (Option.some.inj hr).symm
    subst hx
    refine (in_any c s w (by omega)).mono ?_
    rintro e w' ⟨rfl, rfl⟩
    exact ⟨_, rfl, rfl, Below.refl _ _⟩
  · split at h
    case h_2 => cases h
    rename_i hg
    obtain rfl := Nat.eq_of_beq_eq_true hg
    split at h
    case h_2 => cases h
    rename_i s k l
    split at h
    case h_2 => cases h
    rename_i hs
    split at h
    case h_2 => cases h
    rename_i hl
    split at h
    case h_2 => cases h
    rename_i hk
    have hs := Nat.le_of_ble_eq_true hs
    have hl := Nat.le_of_ble_eq_true hl
    have hk := Nat.le_of_ble_eq_true hk
    obtain rfl := Option.some.inj h
    have hx : xs = #[.string s, .int .i64 (k : Int), .string l] := by
      apply Array.ext'
      exact (Option.some.inj hr).symm
    subst hx
    refine (run_any s l k w hs hl hk).mono ?_
    rintro e w' ⟨rfl, rfl⟩
    exact ⟨_, rfl, rfl, Below.refl _ _⟩
end Go.Proofs.YtnpdnlnglahicaaGreatDoor
