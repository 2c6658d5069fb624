/- The document's Pack and Unpack (lexiconref17). -/
import Derived.Test.YtomfdiomakjeoaaWireLawUn
import Derived.Test.YtomfdiomakjeoaaWireRefTake
namespace Go.Proofs.Ytomfdiomakjeoaa
open Go.RowKit

set_option maxRecDepth 100000 in
set_option maxHeartbeats 400000 in
theorem reffixed_any (n : Nat) (hn : n ≤ 8) (x : Nat) (hx : x < 18446744073709551616) (w : World) :
    Calls Try.prog 55 #[.int .u64 (x : Int), .int .i64 (n : Int)] w (RetB 5 w (lowB x n)) := by
  go_enter Try.func55, Try.ntmps55
  go_wp2
  go_loopw [0, 5, 6] (fun s u i wr => ∃ k : Nat, k ≤ n ∧ i = .int .i64 k ∧ s = .int .u64 ((x / 256 ^ k : Nat) : Int) ∧ OwnB wr w.heap.size 5 u (lowB x k) ∧ Below w.heap.size w wr) (fun _ _ i _ => n - (intOf i).toNat)
  case atStart => exact ⟨0, Nat.zero_le _, rfl, by simp, OwnB.nil _ _ _, Below.refl _ _⟩
  case round =>
    obtain ⟨k, hk, rfl, rfl, ho, hb⟩ := hrel
    have HO := Lib.hid ho
    have HB := Lib.hid hb
    clear ho hb
    by_cases hlt : k < n
    · obtain ⟨y, hy⟩ : ∃ y, x / 256 ^ k = y := ⟨_, rfl⟩
      have hylt : y < 18446744073709551616 := by rw [← hy]; exact Nat.lt_of_le_of_lt (Nat.div_le_self _ _) hx
      have hy2 : x / 256 ^ (k + 1) = y / 256 := by rw [← hy, Nat.pow_succ, Nat.div_div_eq_div_mul]
      rw [hy]
      have HC := Lib.hid (rd_byte (w := wr) y ((y : Int) % 256) 5 (by omega))
      have HS : Hid ((lowB x k).length + 1 ≤ 140737488355328) := by show _ ≤ _; rw [lowB_length]; omega
      have HL : Hid (lowB x k ++ [UInt8.ofNat y] = lowB x (k + 1)) := by show _ = _; rw [lowB_snoc, hy]
      go_wp2_with (at_builtin; refine step_appendB rfl (.tmp 12) (.tmp 16) rfl eltB w.heap.size _ (lowB x k) rfl _ _ _ [UInt8.ofNat y] rfl (HO.out.kept (below_alloc _) (Nat.le_refl _)) rfl HC.out (by simpa using HS.out) (by have := HB.out.size; simp; omega) ?_; intro v' w' h1 h2)
      rw [HL.out] at h1
      have H1 := Lib.hid h1
      have H2 := Lib.hid ((HB.out.alloc HB.out.size _).trans h2)
      clear h1 h2
      go_wp2
      go_roundw
      case rel => exact ⟨k + 1, by omega, by go_num, by rw [hy2]; go_num, H1.out, H2.out⟩
      case measure => simp [intOf]; omega
    · obtain rfl : k = n := by omega
      go_wp2
      go_ret
      exact ⟨_, rfl, HO.out, HB.out⟩
set_option maxRecDepth 100000 in
set_option maxHeartbeats 400000 in
theorem refnumber_any (a : Option Addr) (l : List UInt8) (m cap at0 n : Nat) (w : World) (hm : Hid (m = l.length)) (hm2 : m ≤ 4611686018427387904) (hn : n ≤ 8) (hat : at0 + n ≤ m) (hl : RdB w a l) :
    Calls Try.prog 56 #[.slice a m cap, .int .i64 (at0 : Int), .int .i64 (n : Int)] w fun e w' => e = .returned (.int .u64 (leB ((l.drop at0).take n) : Int)) ∧ w = w' := by
  have HL := Lib.hid hl
  clear hl
  go_enter Try.func56, Try.ntmps56
  go_wp2
  go_loopw [7, 8] (fun s i wr => w = wr ∧ ∃ k : Nat, k ≤ n ∧ i = .int .i64 ((k : Int) - 1) ∧ s = .int .u64 (leB ((l.drop (at0 + k)).take (n - k)) : Int)) (fun _ i _ => (intOf i + 1).toNat)
  case atStart => exact ⟨rfl, n, Nat.le_refl _, rfl, by simp [leB]⟩
  case round =>
    obtain ⟨rfl, k, hk, rfl, rfl⟩ := hrel
    by_cases hk0 : 0 < k
    · obtain ⟨j, rfl⟩ : ∃ j, k = j + 1 := ⟨k - 1, by omega⟩
      have hjl : at0 + j < l.length := by rw [← hm.out]; omega
      obtain ⟨b2, off, rfl, _, hcell⟩ := HL.out.at (by omega)
      have h1 := hcell (at0 + j) hjl
      have hst : leB ((l.drop (at0 + j)).take (n - j)) = l[at0 + j].toNat + 256 * leB ((l.drop (at0 + (j + 1))).take (n - (j + 1))) := by
        rw [List.drop_eq_getElem_cons hjl, show n - j = (n - (j + 1)) + 1 by omega, List.take_succ_cons]
        rfl
      have hlt := leB_lt ((l.drop (at0 + (j + 1))).take (n - (j + 1)))
      have hlt2 : (256 : Nat) ^ ((l.drop (at0 + (j + 1))).take (n - (j + 1))).length ≤ 256 ^ 7 := Nat.pow_le_pow_right (by decide) (by rw [List.length_take]; omega)
      obtain ⟨c, hc⟩ : ∃ c : Nat, l[at0 + j].toNat = c := ⟨_, rfl⟩
      have hc256 : c < 256 := by rw [← hc]; exact l[at0 + j].toNat_lt
      obtain ⟨z, hz⟩ : ∃ z : Nat, leB ((l.drop (at0 + (j + 1))).take (n - (j + 1))) = z := ⟨_, rfl⟩
      rw [hz] at hlt hst ⊢
      rw [hc] at h1 hst
      have hz2 : z < 72057594037927936 := Nat.lt_of_lt_of_le hlt hlt2
      have HST := Lib.hid hst
      have hb1 : (at0 : Int) + (j : Int) < (m : Int) := by omega
      clear hcell hst hlt hlt2 hc
      go_wp2
      go_roundw
      case rel => exact ⟨trivial, j, by omega, by go_num, by rw [HST.out]; go_num⟩
      case measure => simp [intOf]
    · obtain rfl : k = 0 := by omega
      go_wp2
      go_ret
      exact ⟨rfl, rfl⟩
set_option maxRecDepth 100000 in
theorem refwordput_any (t : Int) (ht : t = 0 ∨ t = 1 ∨ t = 5) (x : Nat) (hx : x < 18446744073709551616) (w : World) :
    Calls Try.prog 50 #[.int .i64 t, .int .u64 (x : Int)] w (RetB 5 w (wordB t x)) := by
  rcases ht with rfl | rfl | rfl
  · have hw : wordB 0 x = vput x := by unfold wordB; rw [if_pos rfl]
    rw [hw]
    go_enter Try.func50, Try.ntmps50
    go_wp2_with (go_at_call 18; refine (refvarint_any x hx _).mono ?_; rintro e w1 ⟨v, rfl, ho, hb⟩; have HO := Lib.hid ho; have HB := Lib.hid hb; clear ho hb)
    go_ret
    exact ⟨_, rfl, HO.out, HB.out⟩
  · have hw : wordB 1 x = lowB x 8 := by unfold wordB; simp
    rw [hw]
    go_enter Try.func50, Try.ntmps50
    go_wp2_with (go_at_call 55; refine (reffixed_any 8 (by omega) x hx _).mono ?_; rintro e w1 ⟨v, rfl, ho, hb⟩; have HO := Lib.hid ho; have HB := Lib.hid hb; clear ho hb)
    go_ret
    exact ⟨_, rfl, HO.out, HB.out⟩
  · have hw : wordB 5 x = lowB x 4 := by unfold wordB; simp
    rw [hw]
    go_enter Try.func50, Try.ntmps50
    go_wp2_with (go_at_call 55; refine (reffixed_any 4 (by omega) x hx _).mono ?_; rintro e w1 ⟨v, rfl, ho, hb⟩; have HO := Lib.hid ho; have HB := Lib.hid hb; clear ho hb)
    go_ret
    exact ⟨_, rfl, HO.out, HB.out⟩
/-- What 'word' hands back. -/
def WordRet (t : Int) (l : List UInt8) (at0 : Nat) (e : Ending) : Prop := ∃ (x k : Nat) (ok : Bool), e = .returned (.tuple #[.int .u64 (x : Int), .int .i64 ((at0 + k : Nat) : Int), .bool ok]) ∧ ((rdWord t (l.drop at0) = none ∧ ok = false) ∨ (rdWord t (l.drop at0) = some (x, k) ∧ ok = true))
set_option maxRecDepth 100000 in
theorem refword_any (t : Int) (ht : t = 0 ∨ t = 1 ∨ t = 5) (a : Option Addr) (l : List UInt8) (m cap at0 : Nat) (w : World) (hm : Hid (m = l.length)) (hm2 : m ≤ 4611686018427387904) (hat : at0 ≤ m) (hl : RdB w a l) :
    Calls Try.prog 51 #[.int .i64 t, .slice a m cap, .int .i64 (at0 : Int)] w fun e w' =>
      WordRet t l at0 e ∧ w = w' := by
  by_cases ht0 : t = 0
  · subst ht0
    have hrt := reftake_any a l m cap at0 w hm hm2 hat hl
    have hres : (rdWord 0 (l.drop at0) = none ∧ (verr (l.drop at0) == 0) = false) ∨ (rdWord 0 (l.drop at0) = some (vval (l.drop at0), vlen (l.drop at0)) ∧ (verr (l.drop at0) == 0) = true) := by
      unfold rdWord vval vlen verr
      rw [if_pos rfl]
      cases vtake (l.drop at0) with
      | none => exact .inl ⟨rfl, rfl⟩
      | some p => exact .inr ⟨rfl, rfl⟩
    obtain ⟨x, hx⟩ : ∃ x, vval (l.drop at0) = x := ⟨_, rfl⟩
    obtain ⟨k, hk⟩ : ∃ x, vlen (l.drop at0) = x := ⟨_, rfl⟩
    obtain ⟨ok, hok⟩ : ∃ x, (verr (l.drop at0) == 0) = x := ⟨_, rfl⟩
    rw [hx, hk, hok] at hrt hres
    have HR := Lib.hid hres
    obtain ⟨nx, hnx⟩ : ∃ nx, ((at0 + k : Nat) : Int) = nx := ⟨_, rfl⟩
    have HNX := Lib.hid hnx
    rw [hnx] at hrt
    clear hres hx hk hok hnx
    go_enter Try.func51, Try.ntmps51
    go_wp2_with (go_at_call 14; refine hrt.mono ?_; rintro e _ ⟨rfl, rfl⟩)
    go_ret3
    exact ⟨⟨x, k, ok, by rw [HNX.out]; rfl, HR.out⟩, rfl⟩
  · obtain ⟨z, hz⟩ : ∃ z, (if t = 1 then 8 else 4) = z := ⟨_, rfl⟩
    have hrw : rdWord t (l.drop at0) = if m - at0 < z then none else some (leB ((l.drop at0).take z), z) := by unfold rdWord; rw [if_neg ht0, hz, List.length_drop, ← hm.out]
    have hz8 : z = 8 ∨ z = 4 := by rw [← hz]; split <;> simp
    have ht15 : (t = 1 ∧ z = 8) ∨ (t = 5 ∧ z = 4) := by
      rcases ht with h | h | h
      · exact absurd h ht0
      · subst h; exact .inl ⟨rfl, by rw [← hz]; rfl⟩
      · subst h; exact .inr ⟨rfl, by rw [← hz]; rfl⟩
    have HRW := Lib.hid hrw
    clear hrw hz ht ht0
    by_cases hsh : m - at0 < z
    · have hti : (m : Int) - (at0 : Int) < (z : Int) := by omega
      have hnone : Hid (rdWord t (l.drop at0) = none) := by show _ = _; rw [HRW.out, if_pos hsh]
      clear HRW
      rcases ht15 with ⟨rfl, rfl⟩ | ⟨rfl, rfl⟩
      · have htd : decide ((m : Int) - (at0 : Int) < 8) = true := decide_eq_true (by omega)
        clear hti hsh
        go_enter Try.func51, Try.ntmps51
        go_wp2
        go_ret3
        exact ⟨⟨0, 0, false, rfl, .inl ⟨hnone.out, rfl⟩⟩, rfl⟩
      · have htd : decide ((m : Int) - (at0 : Int) < 4) = true := decide_eq_true (by omega)
        clear hti hsh
        go_enter Try.func51, Try.ntmps51
        go_wp2
        go_ret3
        exact ⟨⟨0, 0, false, rfl, .inl ⟨hnone.out, rfl⟩⟩, rfl⟩
    · have hnum := refnumber_any a l m cap at0 z w hm hm2 (by omega) (by omega) hl
      obtain ⟨x, hx⟩ : ∃ x, leB ((l.drop at0).take z) = x := ⟨_, rfl⟩
      rw [hx] at hnum
      have hsome : Hid (rdWord t (l.drop at0) = some (x, z)) := by show _ = _; rw [HRW.out, if_neg hsh, hx]
      clear HRW hx
      rcases ht15 with ⟨rfl, rfl⟩ | ⟨rfl, rfl⟩
      · have htd : decide ((m : Int) - (at0 : Int) < 8) = false := decide_eq_false (by omega)
        have hle : at0 + 8 ≤ m := by omega
        clear hsh
        go_enter Try.func51, Try.ntmps51
        go_wp2_with (go_at_call 56; refine hnum.mono ?_; rintro e _ ⟨rfl, rfl⟩)
        go_ret3
        exact ⟨⟨x, 8, true, rfl, .inr ⟨hsome.out, rfl⟩⟩, rfl⟩
      · have htd : decide ((m : Int) - (at0 : Int) < 4) = false := decide_eq_false (by omega)
        have hle : at0 + 4 ≤ m := by omega
        clear hsh
        go_enter Try.func51, Try.ntmps51
        go_wp2_with (go_at_call 56; refine hnum.mono ?_; rintro e _ ⟨rfl, rfl⟩)
        go_ret3
        exact ⟨⟨x, 4, true, rfl, .inr ⟨hsome.out, rfl⟩⟩, rfl⟩
theorem step_appendB8 {P : Program} {ops : Array Oper} {rest : List Oper} {o : Oper} {act : Act} {Q : Exit → Act → World → Prop} {w : World} (hgd : o.guard = none) (s x : Operand) {t : TypeId}
    (ho : o.op = .call { callee := .builtin .append, args := #[s, x], argTypes := #[t, t] }) {e : TypeId} {z : Value} (E : Elt P t e 1 8 z) (base : Nat)
    (v : Value) (l : List Nat) (hv : act.eval s = v) (a : Option Addr) (m c : Nat) (k : List Nat) (hx : act.eval x = .slice a m c)
    (hown : w.ownsRow base e 1 v l.length (l.map uv)) (hm : m = k.length) (hk : RdU w a k) (hsz : (l.length + k.length) * 8 ≤ 140737488355328) (hbase : base ≤ w.heap.size)
    (h : ∀ v' w', w'.ownsRow base e 1 v' (l ++ k).length ((l ++ k).map uv) → Below base w w' → wpList P ops Q rest (act.put o.dst v') w') : wpList P ops Q (o :: rest) act w := by
  refine step_append hgd s x ho E base v l.length (l.map uv) hv a m c (k.map uv) hx hown (by simp [hm]) hk (by intro u hu; obtain ⟨y, _, rfl⟩ := List.mem_map.1 hu; rfl) (by rw [hm]; omega) (by rw [hm]; omega) hbase fun v' w' h1 h2 _ => ?_
  refine h v' w' ?_ ((Below.refl base w).grown h2 hbase fun g hg => (World.ownsRow.lt hown g hg).1)
  rw [List.map_append, List.length_append, ← hm]
  exact h1
set_option maxRecDepth 100000 in
set_option maxHeartbeats 2000000 in
theorem refunpack_any (t : Int) (a : Option Addr) (l : List UInt8) (n cap : Nat) (w : World) (hn : Hid (n = l.length)) (hc : n ≤ cap) (hn2 : n ≤ 4611686018427387904) (hl : RdB w a l) :
    Calls Try.prog 34 #[.int .i64 t, .slice a n cap] w fun e w' =>
      ∃ v, e = .returned (.tuple #[v, .int .i64 ((unpackOf t l).2 : Int)]) ∧ OwnU w' w.heap.size v (unpackOf t l).1 ∧ Below w.heap.size w w' := by
  have HL := Lib.hid hl
  clear hl
  obtain ⟨uo, huo⟩ : ∃ uo, unpackOf t l = uo := ⟨_, rfl⟩
  rw [huo]
  have hup : uo = unpackOf t l := huo.symm
  clear huo
  by_cases hbig : 1048576 < n
  · have HE : Hid (uo = ([], 3)) := by show _ = _; rw [hup]; unfold unpackOf; rw [if_pos (by rw [← hn.out]; exact hbig)]
    clear hup
    go_enter Try.func34, Try.ntmps34
    go_wp2
    go_ret2
    rw [HE.out]
    exact ⟨_, rfl, OwnU.nil _ _, Below.refl _ _⟩
  · have hup : uo = if t = 0 ∨ t = 1 ∨ t = 5 then (match unAll t (l.length + 1) l with | none => ([], 270) | some ws => (ws, 0)) else ([], 2) := by rw [hup]; unfold unpackOf; rw [if_neg (by rw [← hn.out]; exact hbig)]; rfl
    by_cases ht : t = 0 ∨ t = 1 ∨ t = 5
    · rw [if_pos ht] at hup
      have HF := Lib.hid hup
      have HTT := Lib.hid ht
      clear hup
      clear ht
      have HW := Lib.hid fun (W : World) (at0 : Nat) (hat : at0 ≤ n) (hr : RdB W a l) => refword_any t HTT.out a l n cap at0 W hn hn2 hat hr
      have hq : (t != 0) = false ∨ ((t != 0) = true ∧ (t != 1) = false) ∨ ((t != 0) = true ∧ (t != 1) = true ∧ (t != 5) = false) := by
        rcases HTT.out with rfl | rfl | rfl
        · exact .inl rfl
        · exact .inr (.inl ⟨rfl, rfl⟩)
        · exact .inr (.inr ⟨rfl, rfl, rfl⟩)
      rcases hq with q0 | ⟨q0, q1⟩ | ⟨q0, q1, q5⟩
      all_goals
        go_enter Try.func34, Try.ntmps34
        go_wp2
        go_loopw [6, 7] (fun v i wr => Below w.heap.size w wr ∧ ∃ (k : Nat) (ws : List Nat), i = .int .i64 k ∧ k ≤ n ∧ OwnU wr w.heap.size v ws ∧ ws.length ≤ k ∧
          (unAll t (l.length + 1) l = (unAll t ((l.drop k).length + 1) (l.drop k)).map (ws ++ ·))) (fun _ i _ => n - (intOf i).toNat)
        case atStart => exact ⟨Below.refl _ _, 0, [], rfl, Nat.zero_le _, OwnU.nil _ _, by simp, by simp⟩
        case round =>
          obtain ⟨hb, k, ws, rfl, hk, ho, hlen, hrd⟩ := hrel
          have HB := Lib.hid hb
          have HO := Lib.hid ho
          have HR := Lib.hid hrd
          clear hb ho hrd
          by_cases hkn : k < n
          · have hcall := HW.out wr k hk (HL.out.mono HB.out)
            have HC := Lib.hid hcall
            have hne : l.drop k ≠ [] := by intro e; have := congrArg List.length e; rw [List.length_drop, ← hn.out, List.length_nil] at this; omega
            clear hcall
            go_wp2_with fail
            refine HC.out.mono ?_
            rintro e _ ⟨⟨x, k1, ok, rfl, hword⟩, rfl⟩
            rcases hword with ⟨hnone, rfl⟩ | ⟨hsome, rfl⟩
            · have HE : Hid (uo = ([], 270)) := by
                show _ = _
                rw [HF.out, HR.out, unAll_cons hne, hnone]
                rfl
              clear HR hnone hne HC
              go_wp2
              go_ret2
              rw [HE.out]
              exact ⟨_, rfl, OwnU.nil _ _, HB.out⟩
            · have hpk := rdWord_pos hsome
              have hk1 := hpk.1
              have hk2 : k + k1 ≤ n := by have := hpk.2.1; rw [List.length_drop, ← hn.out] at this; omega
              have hx := hpk.2.2
              have HR2 : Hid (unAll t (l.length + 1) l = (unAll t ((l.drop (k + k1)).length + 1) (l.drop (k + k1))).map ((ws ++ [x]) ++ ·)) := by
                show _ = _
                rw [HR.out, unAll_cons hne, hsome]
                dsimp only
                rw [List.drop_drop, unAll_more t (l.drop k).length ((l.drop (k + k1)).length + 1) (l.drop (k + k1)) (by rw [List.length_drop, List.length_drop]; have := hn.out; omega) (by omega), Option.map_map]
                congr 1
                funext y
                simp
              clear HR hsome hne hpk HC
              go_wp2_with (at_builtin; refine step_appendB8 rfl (.tmp 38) (.tmp 40) rfl eltU w.heap.size _ ws rfl _ _ _ [x] rfl (HO.out.kept (below_alloc _) (Nat.le_refl _)) rfl (rd_lit _ _ _ _ _ rfl) (by simp; omega) (by have := HB.out.size; simp; omega) ?_; intro v3 w3 h1 h2; have HO3 := Lib.hid h1; have HB3 := Lib.hid ((HB.out.alloc HB.out.size _).trans h2); clear h1 h2)
              exact ⟨⟨HB3.out, k + k1, ws ++ [x], by go_num, hk2, HO3.out, by rw [List.length_append]; show ws.length + 1 ≤ _; omega, HR2.out⟩, by simp [intOf]; omega⟩
          · obtain rfl : k = n := by omega
            have hd0 : l.drop k = [] := List.drop_eq_nil_of_le (by rw [← hn.out]; omega)
            have HE : Hid (uo = (ws, 0)) := by
              show _ = _
              rw [HF.out, HR.out, hd0, unAll_nil]
              simp
            clear HR
            go_wp2
            go_ret2
            rw [HE.out]
            exact ⟨_, rfl, HO.out, HB.out⟩
    · rw [if_neg ht] at hup
      have HE := Lib.hid hup
      have t0 : (t != 0) = true := by simp; omega
      have t1 : (t != 1) = true := by simp; omega
      have t5 : (t != 5) = true := by simp; omega
      clear hup ht
      go_enter Try.func34, Try.ntmps34
      go_wp2
      go_ret2
      rw [HE.out]
      exact ⟨_, rfl, OwnU.nil _ _, Below.refl _ _⟩
theorem fitB_no {t : Int} (h : (t == 5) = false) (x : Nat) : fitB t x = true := by unfold fitB; rw [h]; rfl
theorem fitB_yes {t : Int} {x : Nat} (h : x < 4294967296) : fitB t x = true := by unfold fitB; rw [decide_eq_true (by omega : (x : Int) < 4294967296), Bool.or_true]
theorem fitB_big {t : Int} (h : (t == 5) = true) {x : Nat} (hx : ¬ x < 4294967296) : fitB t x = false := by unfold fitB; rw [h, decide_eq_false (by omega : ¬ (x : Int) < 4294967296)]; rfl
set_option maxRecDepth 100000 in
set_option maxHeartbeats 4000000 in
theorem refpack_any (t : Int) (a : Option Addr) (l : List Nat) (n cap : Nat) (w : World) (hn : Hid (n = l.length)) (hc : n ≤ cap) (hn2 : n ≤ 1000000000) (hwf : Hid (∀ x ∈ l, x < 18446744073709551616)) (hl : RdU w a l) :
    Calls Try.prog 32 #[.int .i64 t, .slice a n cap] w fun e w' =>
      ∃ v, e = .returned (.tuple #[v, .int .i64 ((packOf t l).2 : Int)]) ∧ OwnB w' w.heap.size 5 v (packOf t l).1 ∧ Below w.heap.size w w' := by
  have HL := Lib.hid hl
  clear hl
  obtain ⟨po, hpo⟩ : ∃ po, packOf t l = po := ⟨_, rfl⟩
  rw [hpo]
  have hpk : po = packOf t l := hpo.symm
  clear hpo
  by_cases ht : t = 0 ∨ t = 1 ∨ t = 5
  · have HTT := Lib.hid ht
    have hpn : l.all (fitB t) = false → po = ([], 2) := fun h => by rw [hpk]; unfold packOf; rw [if_neg (by rw [h]; simp)]
    have hpy : l.all (fitB t) = true → po = if (wordsB t l).length ≤ 1048576 then (wordsB t l, 0) else ([], 3) := fun h => by rw [hpk]; unfold packOf; rw [if_pos ⟨HTT.out, h⟩]
    have HPN := Lib.hid hpn
    have HPK := Lib.hid hpy
    have hq : ((t != 0) = false ∧ (t == 5) = false) ∨ ((t != 0) = true ∧ (t != 1) = false ∧ (t == 5) = false) ∨ ((t != 0) = true ∧ (t != 1) = true ∧ (t != 5) = false ∧ (t == 5) = true) := by
      rcases ht with rfl | rfl | rfl
      · exact .inl ⟨rfl, rfl⟩
      · exact .inr (.inl ⟨rfl, rfl, rfl⟩)
      · exact .inr (.inr ⟨rfl, rfl, rfl, rfl⟩)
    clear hpk hpn hpy ht
    rcases hq with ⟨q0, p5⟩ | ⟨q0, q1, p5⟩ | ⟨q0, q1, q5, p5⟩
    · skip
      go_enter Try.func32, Try.ntmps32
      go_wp2
      go_loopw [7] (fun i wr => w = wr ∧ ∃ k : Nat, k ≤ n ∧ i = .int .i64 k ∧ (l.take k).all (fitB t) = true) (fun i _ => n - (intOf i).toNat)
      case atStart => exact ⟨rfl, 0, Nat.zero_le _, rfl, rfl⟩
      case round =>
        obtain ⟨rfl, k, hk, rfl, hall⟩ := hrel
        have HA := Lib.hid hall
        clear hall
        by_cases hkn : k < n
        · have hkl : k < l.length := by rw [← hn.out]; omega
          have HS1 := Lib.hid (List.take_succ_eq_append_getElem hkl)
          go_wp2
          refine ⟨⟨trivial, k + 1, by omega, by go_num, ?_⟩, by simp [intOf]; omega⟩
          rw [HS1.out, List.all_append, HA.out, Bool.true_and, List.all_cons, List.all_nil, Bool.and_true]
          exact fitB_no p5 _
        · obtain rfl : n = k := by omega
          have he : l.take n = l := by rw [hn.out, List.take_length]
          have hall : l.all (fitB t) = true := by have := HA.out; rwa [he] at this
          have HL1 := Lib.hid he
          clear HA he
          clear HL1
          have hall := hall
          go_wp2
          go_loopw [6, 8] (fun v i wr => Below w.heap.size w wr ∧ ∃ k : Nat, k ≤ n ∧ i = .int .i64 k ∧ OwnB wr w.heap.size 5 v (wordsB t (l.take k))) (fun _ i _ => n - (intOf i).toNat)
          case atStart => exact ⟨Below.refl _ _, 0, Nat.zero_le _, rfl, OwnB.nil _ _ _⟩
          case round =>
            obtain ⟨hb, k, hk, rfl, ho⟩ := hrel
            have HB := Lib.hid hb
            have HO := Lib.hid ho
            clear hb ho
            by_cases hkn : k < n
            · have hkl : k < l.length := by rw [← hn.out]; omega
              obtain ⟨b2, off, rfl, hlt, hcell⟩ := HL.out.at (by omega)
              have h1 := HB.out.cell (p := ⟨b2, off + k, none⟩) hlt |>.trans (hcell k hkl)
              have hxlt := hwf.out l[k] (List.getElem_mem hkl)
              have hlen : (wordsB t (l.take k)).length + 10 ≤ 140737488355328 := by
                have := wordsB_len t (l.take k) (fun y hy => hwf.out y (List.mem_of_mem_take hy))
                rw [List.length_take] at this
                omega
              have hsn : wordsB t (l.take (k + 1)) = wordsB t (l.take k) ++ wordB t l[k] := by rw [List.take_succ_eq_append_getElem hkl]; unfold wordsB; rw [List.flatMap_append]; simp
              obtain ⟨x, hx⟩ : ∃ x, l[k] = x := ⟨_, rfl⟩
              rw [hx] at h1 hxlt hsn
              have hwl := wordB_len t x hxlt
              have HSN := Lib.hid hsn
              have HLE : Hid ((wordsB t (l.take k)).length + (wordB t x).length ≤ 140737488355328) := by show _ ≤ _; omega
              clear hcell hsn hlen hx hwl
              go_wp2_with (first | (go_at_call 50; refine (refwordput_any t HTT.out x hxlt _).mono ?_; rintro e w7 ⟨v7, rfl, ho7, hb7⟩; obtain ⟨a7, c7, rfl, hc7, hr7⟩ := ho7.rd; have HR7 := Lib.hid hr7; have HO7 := Lib.hid (HO.out.kept hb7 (Nat.le_refl _)); have HB7 := Lib.hid (HB.out.trans (hb7.mono HB.out.size)); clear ho7 hb7 hr7 hc7) | (at_builtin; refine step_appendB rfl (.tmp 40) (.tmp 46) rfl eltB w.heap.size _ (wordsB t (l.take k)) rfl _ _ _ (wordB t x) rfl HO7.out rfl HR7.out HLE.out HB7.out.size ?_; intro v8 w8 h81 h82; rw [← HSN.out] at h81; have HF := Lib.hid h81; have HF2 := Lib.hid (HB7.out.trans h82); clear h81 h82))
              exact ⟨⟨HF2.out, k + 1, by omega, by go_num, HF.out⟩, by simp [intOf]; omega⟩
            · obtain rfl : k = n := by omega
              have he : l.take k = l := by rw [hn.out, List.take_length]
              rw [he] at HO
              obtain ⟨a4, c4, rfl, hc4, hr4⟩ := HO.out.rd
              obtain ⟨q, hq⟩ : ∃ q, (wordsB t l).length = q := ⟨_, rfl⟩
              have HH := Lib.hid HO.out
              have hpk := HPK.out hall
              rw [hq] at HH hc4 hpk ⊢
              by_cases hbig : q ≤ 1048576
              · rw [if_pos hbig] at hpk
                have HPE := Lib.hid hpk
                clear hr4 hpk
                go_wp2
                go_ret2
                rw [HPE.out]
                exact ⟨_, rfl, HH.out, HB.out⟩
              · rw [if_neg hbig] at hpk
                have HPE := Lib.hid hpk
                clear hr4 hpk
                go_wp2
                go_ret2
                rw [HPE.out]
                exact ⟨_, rfl, OwnB.nil _ _ _, HB.out⟩
    · skip
      go_enter Try.func32, Try.ntmps32
      go_wp2
      go_loopw [7] (fun i wr => w = wr ∧ ∃ k : Nat, k ≤ n ∧ i = .int .i64 k ∧ (l.take k).all (fitB t) = true) (fun i _ => n - (intOf i).toNat)
      case atStart => exact ⟨rfl, 0, Nat.zero_le _, rfl, rfl⟩
      case round =>
        obtain ⟨rfl, k, hk, rfl, hall⟩ := hrel
        have HA := Lib.hid hall
        clear hall
        by_cases hkn : k < n
        · have hkl : k < l.length := by rw [← hn.out]; omega
          have HS1 := Lib.hid (List.take_succ_eq_append_getElem hkl)
          go_wp2
          refine ⟨⟨trivial, k + 1, by omega, by go_num, ?_⟩, by simp [intOf]; omega⟩
          rw [HS1.out, List.all_append, HA.out, Bool.true_and, List.all_cons, List.all_nil, Bool.and_true]
          exact fitB_no p5 _
        · obtain rfl : n = k := by omega
          have he : l.take n = l := by rw [hn.out, List.take_length]
          have hall : l.all (fitB t) = true := by have := HA.out; rwa [he] at this
          have HL1 := Lib.hid he
          clear HA he
          clear HL1
          have hall := hall
          go_wp2
          go_loopw [6, 8] (fun v i wr => Below w.heap.size w wr ∧ ∃ k : Nat, k ≤ n ∧ i = .int .i64 k ∧ OwnB wr w.heap.size 5 v (wordsB t (l.take k))) (fun _ i _ => n - (intOf i).toNat)
          case atStart => exact ⟨Below.refl _ _, 0, Nat.zero_le _, rfl, OwnB.nil _ _ _⟩
          case round =>
            obtain ⟨hb, k, hk, rfl, ho⟩ := hrel
            have HB := Lib.hid hb
            have HO := Lib.hid ho
            clear hb ho
            by_cases hkn : k < n
            · have hkl : k < l.length := by rw [← hn.out]; omega
              obtain ⟨b2, off, rfl, hlt, hcell⟩ := HL.out.at (by omega)
              have h1 := HB.out.cell (p := ⟨b2, off + k, none⟩) hlt |>.trans (hcell k hkl)
              have hxlt := hwf.out l[k] (List.getElem_mem hkl)
              have hlen : (wordsB t (l.take k)).length + 10 ≤ 140737488355328 := by
                have := wordsB_len t (l.take k) (fun y hy => hwf.out y (List.mem_of_mem_take hy))
                rw [List.length_take] at this
                omega
              have hsn : wordsB t (l.take (k + 1)) = wordsB t (l.take k) ++ wordB t l[k] := by rw [List.take_succ_eq_append_getElem hkl]; unfold wordsB; rw [List.flatMap_append]; simp
              obtain ⟨x, hx⟩ : ∃ x, l[k] = x := ⟨_, rfl⟩
              rw [hx] at h1 hxlt hsn
              have hwl := wordB_len t x hxlt
              have HSN := Lib.hid hsn
              have HLE : Hid ((wordsB t (l.take k)).length + (wordB t x).length ≤ 140737488355328) := by show _ ≤ _; omega
              clear hcell hsn hlen hx hwl
              go_wp2_with (first | (go_at_call 50; refine (refwordput_any t HTT.out x hxlt _).mono ?_; rintro e w7 ⟨v7, rfl, ho7, hb7⟩; obtain ⟨a7, c7, rfl, hc7, hr7⟩ := ho7.rd; have HR7 := Lib.hid hr7; have HO7 := Lib.hid (HO.out.kept hb7 (Nat.le_refl _)); have HB7 := Lib.hid (HB.out.trans (hb7.mono HB.out.size)); clear ho7 hb7 hr7 hc7) | (at_builtin; refine step_appendB rfl (.tmp 40) (.tmp 46) rfl eltB w.heap.size _ (wordsB t (l.take k)) rfl _ _ _ (wordB t x) rfl HO7.out rfl HR7.out HLE.out HB7.out.size ?_; intro v8 w8 h81 h82; rw [← HSN.out] at h81; have HF := Lib.hid h81; have HF2 := Lib.hid (HB7.out.trans h82); clear h81 h82))
              exact ⟨⟨HF2.out, k + 1, by omega, by go_num, HF.out⟩, by simp [intOf]; omega⟩
            · obtain rfl : k = n := by omega
              have he : l.take k = l := by rw [hn.out, List.take_length]
              rw [he] at HO
              obtain ⟨a4, c4, rfl, hc4, hr4⟩ := HO.out.rd
              obtain ⟨q, hq⟩ : ∃ q, (wordsB t l).length = q := ⟨_, rfl⟩
              have HH := Lib.hid HO.out
              have hpk := HPK.out hall
              rw [hq] at HH hc4 hpk ⊢
              by_cases hbig : q ≤ 1048576
              · rw [if_pos hbig] at hpk
                have HPE := Lib.hid hpk
                clear hr4 hpk
                go_wp2
                go_ret2
                rw [HPE.out]
                exact ⟨_, rfl, HH.out, HB.out⟩
              · rw [if_neg hbig] at hpk
                have HPE := Lib.hid hpk
                clear hr4 hpk
                go_wp2
                go_ret2
                rw [HPE.out]
                exact ⟨_, rfl, OwnB.nil _ _ _, HB.out⟩
    · skip
      go_enter Try.func32, Try.ntmps32
      go_wp2
      go_loopw [7] (fun i wr => w = wr ∧ ∃ k : Nat, k ≤ n ∧ i = .int .i64 k ∧ (l.take k).all (fitB t) = true) (fun i _ => n - (intOf i).toNat)
      case atStart => exact ⟨rfl, 0, Nat.zero_le _, rfl, rfl⟩
      case round =>
        obtain ⟨rfl, k, hk, rfl, hall⟩ := hrel
        have HA := Lib.hid hall
        clear hall
        by_cases hkn : k < n
        · have hkl : k < l.length := by rw [← hn.out]; omega
          have HS1 := Lib.hid (List.take_succ_eq_append_getElem hkl)
          obtain ⟨b2, off, rfl, hlt, hcell⟩ := HL.out.at (by omega)
          have h1 := hcell k hkl
          obtain ⟨x, hx⟩ : ∃ x, l[k] = x := ⟨_, rfl⟩
          rw [hx] at h1
          clear hcell
          by_cases hf : x < 4294967296
          · have htd : decide ((4294967296 : Int) ≤ (x : Int)) = false := decide_eq_false (by omega)
            have HFX := Lib.hid (fitB_yes (t := t) hf)
            have HXX := Lib.hid hx
            clear hf hx
            go_wp2
            refine ⟨⟨trivial, k + 1, by omega, by go_num, ?_⟩, by simp [intOf]; omega⟩
            rw [HS1.out, List.all_append, HA.out, HXX.out, Bool.true_and, List.all_cons, List.all_nil, Bool.and_true]
            exact HFX.out
          · have hno : l.all (fitB t) = false := by
              rw [List.all_eq_false]
              refine ⟨l[k], List.getElem_mem hkl, ?_⟩
              rw [hx, fitB_big p5 hf]
              decide
            have HPE := Lib.hid (HPN.out hno)
            have htd : decide ((4294967296 : Int) ≤ (x : Int)) = true := decide_eq_true (by omega)
            clear hf hx hno
            go_wp2
            go_ret2
            rw [HPE.out]
            exact ⟨_, rfl, OwnB.nil _ _ _, Below.refl _ _⟩
        · obtain rfl : n = k := by omega
          have he : l.take n = l := by rw [hn.out, List.take_length]
          have hall : l.all (fitB t) = true := by have := HA.out; rwa [he] at this
          have HL1 := Lib.hid he
          clear HA he
          clear HL1
          have hall := hall
          go_wp2
          go_loopw [6, 8] (fun v i wr => Below w.heap.size w wr ∧ ∃ k : Nat, k ≤ n ∧ i = .int .i64 k ∧ OwnB wr w.heap.size 5 v (wordsB t (l.take k))) (fun _ i _ => n - (intOf i).toNat)
          case atStart => exact ⟨Below.refl _ _, 0, Nat.zero_le _, rfl, OwnB.nil _ _ _⟩
          case round =>
            obtain ⟨hb, k, hk, rfl, ho⟩ := hrel
            have HB := Lib.hid hb
            have HO := Lib.hid ho
            clear hb ho
            by_cases hkn : k < n
            · have hkl : k < l.length := by rw [← hn.out]; omega
              obtain ⟨b2, off, rfl, hlt, hcell⟩ := HL.out.at (by omega)
              have h1 := HB.out.cell (p := ⟨b2, off + k, none⟩) hlt |>.trans (hcell k hkl)
              have hxlt := hwf.out l[k] (List.getElem_mem hkl)
              have hlen : (wordsB t (l.take k)).length + 10 ≤ 140737488355328 := by
                have := wordsB_len t (l.take k) (fun y hy => hwf.out y (List.mem_of_mem_take hy))
                rw [List.length_take] at this
                omega
              have hsn : wordsB t (l.take (k + 1)) = wordsB t (l.take k) ++ wordB t l[k] := by rw [List.take_succ_eq_append_getElem hkl]; unfold wordsB; rw [List.flatMap_append]; simp
              obtain ⟨x, hx⟩ : ∃ x, l[k] = x := ⟨_, rfl⟩
              rw [hx] at h1 hxlt hsn
              have hwl := wordB_len t x hxlt
              have HSN := Lib.hid hsn
              have HLE : Hid ((wordsB t (l.take k)).length + (wordB t x).length ≤ 140737488355328) := by show _ ≤ _; omega
              clear hcell hsn hlen hx hwl
              go_wp2_with (first | (go_at_call 50; refine (refwordput_any t HTT.out x hxlt _).mono ?_; rintro e w7 ⟨v7, rfl, ho7, hb7⟩; obtain ⟨a7, c7, rfl, hc7, hr7⟩ := ho7.rd; have HR7 := Lib.hid hr7; have HO7 := Lib.hid (HO.out.kept hb7 (Nat.le_refl _)); have HB7 := Lib.hid (HB.out.trans (hb7.mono HB.out.size)); clear ho7 hb7 hr7 hc7) | (at_builtin; refine step_appendB rfl (.tmp 40) (.tmp 46) rfl eltB w.heap.size _ (wordsB t (l.take k)) rfl _ _ _ (wordB t x) rfl HO7.out rfl HR7.out HLE.out HB7.out.size ?_; intro v8 w8 h81 h82; rw [← HSN.out] at h81; have HF := Lib.hid h81; have HF2 := Lib.hid (HB7.out.trans h82); clear h81 h82))
              exact ⟨⟨HF2.out, k + 1, by omega, by go_num, HF.out⟩, by simp [intOf]; omega⟩
            · obtain rfl : k = n := by omega
              have he : l.take k = l := by rw [hn.out, List.take_length]
              rw [he] at HO
              obtain ⟨a4, c4, rfl, hc4, hr4⟩ := HO.out.rd
              obtain ⟨q, hq⟩ : ∃ q, (wordsB t l).length = q := ⟨_, rfl⟩
              have HH := Lib.hid HO.out
              have hpk := HPK.out hall
              rw [hq] at HH hc4 hpk ⊢
              by_cases hbig : q ≤ 1048576
              · rw [if_pos hbig] at hpk
                have HPE := Lib.hid hpk
                clear hr4 hpk
                go_wp2
                go_ret2
                rw [HPE.out]
                exact ⟨_, rfl, HH.out, HB.out⟩
              · rw [if_neg hbig] at hpk
                have HPE := Lib.hid hpk
                clear hr4 hpk
                go_wp2
                go_ret2
                rw [HPE.out]
                exact ⟨_, rfl, OwnB.nil _ _ _, HB.out⟩
  · have t0 : (t != 0) = true := by simp; omega
    have t1 : (t != 1) = true := by simp; omega
    have t5 : (t != 5) = true := by simp; omega
    have HE : Hid (po = ([], 2)) := by show _ = _; rw [hpk]; unfold packOf; rw [if_neg (by intro h; exact ht h.1)]
    clear hpk ht
    go_enter Try.func32, Try.ntmps32
    go_wp2
    go_ret2
    rw [HE.out]
    exact ⟨_, rfl, OwnB.nil _ _ _, Below.refl _ _⟩
end Go.Proofs.Ytomfdiomakjeoaa
