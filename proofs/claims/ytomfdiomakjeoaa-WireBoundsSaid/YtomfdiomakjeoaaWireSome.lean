/- The document's One (lexiconref17): the field at a place. -/
import Derived.Test.YtomfdiomakjeoaaWireRefPack
import Derived.Test.YtomfdiomakjeoaaWireRows
namespace Go.Proofs.Ytomfdiomakjeoaa
open Go.RowKit

/-- What the document's One hands back. -/
def RefOne (l : List UInt8) (at0 : Nat) (e : Ending) : Prop := ∃ (cs : Array Value) (nx : Nat) (ok : Bool), e = .returned (.tuple #[.agg cs, .int .i64 (nx : Int), .bool ok]) ∧ cs.size = 4 ∧ cs.all (·.oneCell') = true ∧
  ((rdOne (l.drop at0) = none ∧ ok = false) ∨ ∃ f k, rdOne (l.drop at0) = some (f, k) ∧ cs = (fdC f).toArray ∧ nx = at0 + k ∧ ok = true)
theorem rdOne_word {d : List UInt8} {m t : Nat} (hv : verr d = 0) (hm : vval d = 8 * m + t) (h1 : 1 ≤ m) (h2 : m < 536870912) (ht : t = 0 ∨ t = 1 ∨ t = 5) :
    rdOne d = (rdWord (t : Int) (d.drop (vlen d))).map fun p => ((⟨(m : Int), (t : Int), p.1, []⟩ : Fd), vlen d + p.2) := by
  have e1 : (8 * m + t) / 8 = m := by omega
  have e2 : (8 * m + t) % 8 = t := by omega
  unfold rdOne rdWord
  rw [if_neg (by rw [hv, hm]; omega), hm, e1, e2]
  rcases ht with rfl | rfl | rfl
  · rw [if_pos (show (0 : Nat) = 0 from rfl), if_pos (show ((0 : Nat) : Int) = 0 from rfl)]
    generalize d.drop (vlen d) = dd
    generalize vlen d = kk
    unfold verr vval vlen
    cases vtake dd with
    | none => rfl
    | some p => rfl
  · rw [if_neg (show ¬ (1 : Nat) = 0 by decide), if_pos (show (1 : Nat) = 1 ∨ (1 : Nat) = 5 from .inl rfl), if_neg (show ¬ ((1 : Nat) : Int) = 0 by decide), if_pos (show (1 : Nat) = 1 from rfl), if_pos (show ((1 : Nat) : Int) = 1 from rfl)]
    split <;> rfl
  · rw [if_neg (show ¬ (5 : Nat) = 0 by decide), if_pos (show (5 : Nat) = 1 ∨ (5 : Nat) = 5 from .inr rfl), if_neg (show ¬ ((5 : Nat) : Int) = 0 by decide), if_neg (show ¬ (5 : Nat) = 1 by decide), if_neg (show ¬ ((5 : Nat) : Int) = 1 by decide)]
    split <;> rfl
set_option maxRecDepth 100000 in
set_option maxHeartbeats 4000000 in
theorem refone_any (a : Option Addr) (l : List UInt8) (n cap at0 : Nat) (w : World) (hn : Hid (n = l.length)) (hb : n ≤ 4611686018427387904) (hc : n ≤ cap) (hat : at0 ≤ n) (hl : RdB w a l) :
    Calls Try.prog 46 #[.slice a n cap, .int .i64 (at0 : Int)] w fun e w' => RefOne l at0 e ∧ Below w.heap.size w w' := by
  have HL := Lib.hid hl
  have htk := fun w' (h : Below w.heap.size w w') => reftake_any a l n cap at0 w' hn hb hat (hl.mono h)
  clear hl
  obtain ⟨d, hd⟩ : ∃ d, l.drop at0 = d := ⟨_, rfl⟩
  have hdl : d.length = n - at0 := by rw [← hd, List.length_drop, hn.out]
  obtain ⟨ro, hro⟩ : ∃ ro, rdOne d = ro := ⟨_, rfl⟩
  have fin : ∀ (e : Ending) (w' : World), ((∃ (cs : Array Value) (nx : Nat) (ok : Bool), e = .returned (.tuple #[.agg cs, .int .i64 (nx : Int), .bool ok]) ∧ cs.size = 4 ∧ cs.all (·.oneCell') = true ∧
      ((ro = none ∧ ok = false) ∨ ∃ f k, ro = some (f, k) ∧ cs = (fdC f).toArray ∧ nx = at0 + k ∧ ok = true)) ∧ Below w.heap.size w w') → RefOne l at0 e ∧ Below w.heap.size w w' := fun e w' h => by
    unfold RefOne; rw [hd, hro]; exact h
  have none_ok : ∀ (w' : World), Hid (ro = none) → Below w.heap.size w w' → RefOne l at0 (.returned (.tuple #[.agg zeroFd, .int .i64 (at0 : Int), .bool false])) ∧ Below w.heap.size w w' := fun w' h hb =>
    fin _ _ ⟨⟨zeroFd, at0, false, rfl, rfl, zeroFd_one, .inl ⟨h.out, rfl⟩⟩, hb⟩
  have some_ok : ∀ (w' : World) (m t x : Nat) (s : ByteArray) (bs : List UInt8) (nx : Int) (k : Nat), Hid (ro = some (⟨m, t, x, bs⟩, k)) → Hid (str bs = s) → nx = ((at0 + k : Nat) : Int) → Below w.heap.size w w' →
      RefOne l at0 (.returned (.tuple #[.agg #[.int .i64 (m : Int), .int .i64 (t : Int), .int .u64 (x : Int), .string s], .int .i64 nx, .bool true])) ∧ Below w.heap.size w w' := fun w' m t x s bs nx k h hs hnx hb => by
    subst hnx
    exact fin _ _ ⟨⟨_, _, true, rfl, rfl, by simp [Value.oneCell'], .inr ⟨_, _, h.out, by rw [← hs.out]; rfl, rfl, rfl⟩⟩, hb⟩
  clear fin
  have NO := Lib.hid none_ok
  have SO := Lib.hid some_ok
  have hwd := @rdOne_word d
  rw [hro] at hwd
  have hbad : verr d ≠ 0 ∨ 4294967296 ≤ vval d ∨ vval d < 8 → Hid (ro = none) := fun h => by show _ = _; rw [← hro]; unfold rdOne; rw [if_pos h]
  have hgood : ¬ (verr d ≠ 0 ∨ 4294967296 ≤ vval d ∨ vval d < 8) → ¬ vval d % 8 = 0 → ¬ (vval d % 8 = 1 ∨ vval d % 8 = 5) → Hid (ro = (if vval d % 8 = 2 then
        (if verr (d.drop (vlen d)) ≠ 0 ∨ (d.drop (vlen d)).length - vlen (d.drop (vlen d)) < vval (d.drop (vlen d)) then none
         else some (⟨(vval d / 8 : Nat), 2, 0, ((d.drop (vlen d)).drop (vlen (d.drop (vlen d)))).take (vval (d.drop (vlen d)))⟩, vlen d + vlen (d.drop (vlen d)) + vval (d.drop (vlen d))))
      else none)) := fun h h0 h1 => by show _ = _; rw [← hro]; unfold rdOne; rw [if_neg h, if_neg h0, if_neg h1]
  have hvl := vlen_le d
  have hve := verr_cases d
  have hvv := vval_lt d
  rw [hd] at htk
  have HD := Lib.hid hd
  obtain ⟨tag, htag⟩ : ∃ x, vval d = x := ⟨_, rfl⟩
  obtain ⟨k1, hk1⟩ : ∃ x, vlen d = x := ⟨_, rfl⟩
  obtain ⟨er, her⟩ : ∃ x, verr d = x := ⟨_, rfl⟩
  rw [htag, her] at hbad
  rw [htag, her, hk1] at hgood
  rw [htag, her, hk1] at hwd
  rw [hk1, hdl] at hvl
  rw [htag] at hvv
  rw [htag, hk1, her] at hve
  rw [htag, hk1, her] at htk
  have HK := Lib.hid htk
  clear none_ok some_ok htk hd hro htag hk1 her hdl
  have HW0 : RowAt (w.alloc (.cells zeroFd 40)) w.heap.size 40 zeroFd := RowAt.new _ _ _
  have HB0 : Below w.heap.size w (w.alloc (.cells zeroFd 40)) := below_alloc _
  have hs0 : (w.alloc (.cells zeroFd 40)).heap.size = w.heap.size + 1 := by simp
  unfold zeroFd at HW0 HB0 hs0
  have hnx : ∀ j : Nat, j ≤ 4611686018427387904 → (((at0 + j : Nat) : Nat) : Int) = (at0 : Int) + (j : Int) := fun j _ => by omega
  clear hnx
  have HB1 : ∀ m t : Int, Below w.heap.size w ((w.alloc (.cells zeroFd 40)).alloc (.cells #[.int .i64 m, .int .i64 t, .int .u64 0, .string ⟨#[]⟩] 40)) := fun m t => (below_alloc _).alloc (by simp) _
  have HW1 : ∀ m t : Int, RowAt ((w.alloc (.cells zeroFd 40)).alloc (.cells #[.int .i64 m, .int .i64 t, .int .u64 0, .string ⟨#[]⟩] 40)) w.heap.size 40 zeroFd := fun m t => (RowAt.new _ _ _).below (below_alloc _)
  have H81 : ∀ m t : Int, RowAt ((w.alloc (.cells zeroFd 40)).alloc (.cells #[.int .i64 m, .int .i64 t, .int .u64 0, .string ⟨#[]⟩] 40)) (w.heap.size + 1) 40 #[.int .i64 m, .int .i64 t, .int .u64 0, .string ⟨#[]⟩] := fun m t => heap_alloc2_new _ _ _
  unfold zeroFd at HB1 HW1 H81
  by_cases hb : er ≠ 0 ∨ 4294967296 ≤ tag ∨ tag < 8
  · have HN := hbad hb
    clear hbad hgood hwd
    have HB2 := Lib.hid (HB1 ((tag : Int) / 8) ((tag : Int) % 8))
    have HW2 := HW1 ((tag : Int) / 8) ((tag : Int) % 8)
    clear HB1 HW1 H81
    rcases hve with ⟨rfl, hk0⟩ | ⟨rfl, rfl, rfl⟩
    · have hb' : 4294967296 ≤ tag ∨ (tag < 4294967296 ∧ tag < 8) := by omega
      have her0 : ((0 : Nat) == 0) = true := rfl
      rw [her0] at HK
      clear hb her0
      rcases hb' with hb | ⟨hb0, hb⟩
      · have h32 : decide ((4294967296 : Int) ≤ (tag : Int)) = true := by simp; omega
        go_enter Try.func46, Try.ntmps46
        go_wp2_with (first | (go_at_call 14; refine (HK.out _ HB0).mono ?_; rintro e _ ⟨rfl, rfl⟩) | (refine step_storeRow rfl 40 (.tmp 4) (.tmp 37) rfl rfl w.heap.size zeroFd rfl rfl 40 zeroFd (by exact HW2) aggFd.2 rfl zeroFd_one ?_; intro w1 h1 h2; have hb1 := HB2.out.grown h2 (by simp; omega) (fun g hg => by obtain rfl := Option.some.inj hg; omega)))
        exact bodyPost_ret (results_row3 (p := 4) (q := 5) (r := 6) (u := .int .i64 (at0 : Int)) (v := .bool false) rfl rfl h1 aggFd rfl rfl) rfl (NO.out _ HN hb1)
      · have h32 : decide ((4294967296 : Int) ≤ (tag : Int)) = false := by simp; omega
        have h8 : ((tag : Int) / 8 == 0) = true := by simp; omega
        go_enter Try.func46, Try.ntmps46
        go_wp2_with (first | (go_at_call 14; refine (HK.out _ HB0).mono ?_; rintro e _ ⟨rfl, rfl⟩) | (refine step_storeRow rfl 40 (.tmp 4) (.tmp 37) rfl rfl w.heap.size zeroFd rfl rfl 40 zeroFd (by exact HW2) aggFd.2 rfl zeroFd_one ?_; intro w1 h1 h2; have hb1 := HB2.out.grown h2 (by simp; omega) (fun g hg => by obtain rfl := Option.some.inj hg; omega)))
        exact bodyPost_ret (results_row3 (p := 4) (q := 5) (r := 6) (u := .int .i64 (at0 : Int)) (v := .bool false) rfl rfl h1 aggFd rfl rfl) rfl (NO.out _ HN hb1)
    · have her0 : ((270 : Nat) == 0) = false := rfl
      rw [her0] at HK
      clear hb her0
      go_enter Try.func46, Try.ntmps46
      go_wp2_with (first | (go_at_call 14; refine (HK.out _ HB0).mono ?_; rintro e _ ⟨rfl, rfl⟩) | (refine step_storeRow rfl 40 (.tmp 4) (.tmp 37) rfl rfl w.heap.size zeroFd rfl rfl 40 zeroFd (by exact HW2) aggFd.2 rfl zeroFd_one ?_; intro w1 h1 h2; have hb1 := HB2.out.grown h2 (by simp; omega) (fun g hg => by obtain rfl := Option.some.inj hg; omega)))
      exact bodyPost_ret (results_row3 (p := 4) (q := 5) (r := 6) (u := .int .i64 (at0 : Int)) (v := .bool false) rfl rfl h1 aggFd rfl rfl) rfl (NO.out _ HN hb1)
  · obtain ⟨rfl, hk0⟩ : er = 0 ∧ 0 < k1 := by omega
    have her0 : ((0 : Nat) == 0) = true := rfl
    rw [her0] at HK
    have htg : 8 ≤ tag ∧ tag < 4294967296 := by omega
    obtain ⟨m, hm⟩ : ∃ m, tag / 8 = m := ⟨_, rfl⟩
    obtain ⟨t, ht⟩ : ∃ t, tag % 8 = t := ⟨_, rfl⟩
    have htm : tag = 8 * m + t := by omega
    have hm1 : 1 ≤ m := by omega
    have hm2 : m < 536870912 := by omega
    have ht8 : t < 8 := by omega
    have hgg := hgood hb
    rw [hm, ht] at hgg
    have hww := hwd rfl htm hm1 hm2
    have h32 : decide ((4294967296 : Int) ≤ (tag : Int)) = false := by simp; omega
    have hd8 : (tag : Int) / 8 = (m : Int) := by omega
    have hr8 : (tag : Int) % 8 = (t : Int) := by omega
    have h80 : ((m : Int) == 0) = false := by simp; omega
    have HB2 := Lib.hid (HB1 m t)
    have HW2 := HW1 m t
    have H82 := H81 m t
    have hld : Hid (n - (at0 + k1) = (d.drop k1).length) := by show _ = _; rw [← HD.out, List.length_drop, List.length_drop, ← hn.out]; omega
    have hdd : Hid (l.drop (at0 + k1) = d.drop k1) := by show _ = _; rw [← HD.out, List.drop_drop]
    have hat1 : at0 + k1 ≤ n := by omega
    clear hve hb hvv hm ht hbad hgood hwd HB1 HW1 H81 her0 HD
    clear htm
    rcases (show (t = 0 ∨ t = 1 ∨ t = 5) ∨ t = 2 ∨ (t ≠ 0 ∧ t ≠ 1 ∧ t ≠ 5 ∧ t ≠ 2) by omega) with ht15 | rfl | ⟨ht0, ht1, ht5, ht2⟩
    · have HR := Lib.hid (hww ht15)
      have HWD := Lib.hid fun (W : World) (hr : RdB W a l) => refword_any (t : Int) (by omega) a l n cap (at0 + k1) W hn hb hat1 hr
      have hq : ((t : Int) == 0) = true ∨ (((t : Int) == 0) = false ∧ ((t : Int) == 1) = true) ∨ (((t : Int) == 0) = false ∧ ((t : Int) == 1) = false ∧ ((t : Int) == 5) = true) := by
        rcases ht15 with rfl | rfl | rfl
        · exact .inl rfl
        · exact .inr (.inl ⟨rfl, rfl⟩)
        · exact .inr (.inr ⟨rfl, rfl, rfl⟩)
      clear hww hgg ht15 ht8
      rcases hq with q0 | ⟨q0, q1⟩ | ⟨q0, q1, q5⟩
      all_goals
        go_enter Try.func46, Try.ntmps46
        go_wp2_with (first | (go_at_call 14; refine (HK.out _ HB0).mono ?_; rintro e _ ⟨rfl, rfl⟩))
        refine (HWD.out _ (HL.out.mono HB2.out)).mono ?_
        rintro e _ ⟨⟨x, k, ok, rfl, hres⟩, rfl⟩
        rw [hdd.out] at hres
        rcases hres with ⟨hrw, rfl⟩ | ⟨hrw, rfl⟩
        · have HN : Hid (ro = none) := by show _ = _; rw [HR.out, hrw]; rfl
          clear hrw
          go_wp2_with (first | (refine step_storeField rfl 22 (.tmp 54) (.tmp 51) rfl rfl (w.heap.size + 1) 2 (.int .u64 (x : Int)) rfl rfl 40 #[.int .i64 (m : Int), .int .i64 (t : Int), .int .u64 0, .string ⟨#[]⟩] #[.int .i64 (m : Int), .int .i64 (t : Int), .int .u64 (x : Int), .string ⟨#[]⟩] H82 (by kernel_rfl) (by show 2 < 4; decide) rfl (by simp) ?_; intro w6 h1 h2; have H86 := h1; have HW6 := HW2.grown h2 (fun g hg => by obtain rfl := Option.some.inj hg; omega); have HB6 := HB2.out.grown h2 (by simp; omega) (fun g hg => by obtain rfl := Option.some.inj hg; omega); clear h1 h2) | (refine step_storeRow rfl 40 (.tmp 4) (.tmp 90) rfl rfl w.heap.size zeroFd rfl rfl 40 zeroFd (by exact HW6) aggFd.2 rfl zeroFd_one ?_; intro w7 h1 h2; have hb7 := HB6.grown h2 HB6.size (fun g hg => by obtain rfl := Option.some.inj hg; omega)))
          exact bodyPost_ret (results_row3 (p := 4) (q := 5) (r := 6) (u := .int .i64 (at0 : Int)) (v := .bool false) rfl rfl h1 aggFd rfl rfl) rfl (NO.out _ HN hb7)
        · have HS : Hid (ro = some (⟨m, t, x, []⟩, k1 + k)) := by show _ = _; rw [HR.out, hrw]; rfl
          clear hrw
          go_wp2_with (first | (refine step_storeField rfl 22 (.tmp 54) (.tmp 51) rfl rfl (w.heap.size + 1) 2 (.int .u64 (x : Int)) rfl rfl 40 #[.int .i64 (m : Int), .int .i64 (t : Int), .int .u64 0, .string ⟨#[]⟩] #[.int .i64 (m : Int), .int .i64 (t : Int), .int .u64 (x : Int), .string ⟨#[]⟩] H82 (by kernel_rfl) (by show 2 < 4; decide) rfl (by simp) ?_; intro w6 h1 h2; have H86 := h1; have HW6 := HW2.grown h2 (fun g hg => by obtain rfl := Option.some.inj hg; omega); have HB6 := HB2.out.grown h2 (by simp; omega) (fun g hg => by obtain rfl := Option.some.inj hg; omega); clear h1 h2) | (refine step_loadRow rfl 40 (.tmp 10) rfl (w.heap.size + 1) rfl H86 aggFd ?_) | (refine step_storeRow rfl 40 (.tmp 4) (.tmp 92) rfl rfl w.heap.size #[.int .i64 (m : Int), .int .i64 (t : Int), .int .u64 (x : Int), .string ⟨#[]⟩] rfl rfl 40 zeroFd (by exact HW6) aggFd.2 rfl (by simp [Value.oneCell']) ?_; intro w7 h1 h2; have HB7 := HB6.grown h2 HB6.size (fun g hg => by obtain rfl := Option.some.inj hg; omega)))
          exact bodyPost_ret (results_row3 (p := 4) (q := 5) (r := 6) (u := .int .i64 ((at0 + k1 + k : Nat) : Int)) (v := .bool true) rfl rfl h1 aggFd rfl rfl) rfl (SO.out _ m t x _ [] _ (k1 + k) HS (show _ = _ from rfl) (by rw [Nat.add_assoc]) HB7)
    · have HR := hgg (by decide) (by decide)
      rw [if_pos (show (2 : Nat) = 2 from rfl)] at HR
      have htk2 := fun W (hr : RdB W a l) => reftake_any a l n cap (at0 + k1) W hn hb hat1 hr
      have hvl2 := vlen_le (d.drop k1)
      have hve2 := verr_cases (d.drop k1)
      have hvv2 := vval_lt (d.drop k1)
      rw [← hld.out] at hvl2 HR
      rw [hdd.out] at htk2
      have hdr : ∀ j, (d.drop k1).drop j = l.drop (at0 + k1 + j) := fun j => by rw [← hdd.out, List.drop_drop]
      rw [hdr] at HR
      obtain ⟨x, hx⟩ : ∃ x, vval (d.drop k1) = x := ⟨_, rfl⟩
      obtain ⟨k2, hk2⟩ : ∃ x, vlen (d.drop k1) = x := ⟨_, rfl⟩
      obtain ⟨er, her⟩ : ∃ x, verr (d.drop k1) = x := ⟨_, rfl⟩
      rw [hx, hk2, her] at HR hve2 htk2
      rw [hx] at hvv2
      rw [hk2] at hvl2
      obtain ⟨nx, hnx⟩ : ∃ nx, at0 + k1 + k2 = nx := ⟨_, rfl⟩
      rw [hnx] at HR htk2
      have hnxn : nx ≤ n := by omega
      have HK2 := Lib.hid htk2
      have HNX := Lib.hid hnx
      have HRR := Lib.hid HR.out
      clear htk2 hdr hx hk2 her hnx HR hgg hww hvl2 ht8
      rcases hve2 with ⟨rfl, hk20⟩ | ⟨rfl, rfl, rfl⟩
      · have her0 : ((0 : Nat) == 0) = true := rfl
        rw [her0] at HK2
        clear her0
        by_cases hbig : n - nx < x
        · have HN : Hid (ro = none) := by show _ = _; rw [HRR.out, if_pos (.inr (by have := HNX.out; omega))]
          have htest : decide ((x : Int) ≤ (n : Int) - (nx : Int)) = false := decide_eq_false (by omega)
          have HB6 := HB2.out
          have HW6 := HW2
          clear HRR hbig
          go_enter Try.func46, Try.ntmps46
          go_wp2_with fail
          refine (HK.out _ HB0).mono ?_
          rintro e _ ⟨rfl, rfl⟩
          go_wp2_with fail
          refine (HK2.out _ (HL.out.mono HB2.out)).mono ?_
          rintro e _ ⟨rfl, rfl⟩
          go_wp2_with (first | (refine step_storeRow rfl 40 (.tmp 4) (.tmp 90) rfl rfl w.heap.size zeroFd rfl rfl 40 zeroFd (by exact HW6) aggFd.2 rfl zeroFd_one ?_; intro w7 h1 h2; have hb7 := HB6.grown h2 HB6.size (fun g hg => by obtain rfl := Option.some.inj hg; omega)))
          exact bodyPost_ret (results_row3 (p := 4) (q := 5) (r := 6) (u := .int .i64 (at0 : Int)) (v := .bool false) rfl rfl h1 aggFd rfl rfl) rfl (NO.out _ HN hb7)
        · have HS : Hid (ro = some (⟨(m : Nat), 2, 0, (l.drop nx).take x⟩, k1 + k2 + x)) := by show _ = _; rw [HRR.out, if_neg (by have := HNX.out; omega)]
          have htest : decide ((x : Int) ≤ (n : Int) - (nx : Int)) = true := decide_eq_true (by omega)
          have hxn : nx + x ≤ n := by omega
          clear HRR hbig
          obtain ⟨s, hs⟩ : ∃ s, str ((l.drop nx).take x) = s := ⟨_, rfl⟩
          have hs := Lib.hid hs
          go_enter Try.func46, Try.ntmps46
          go_wp2_with fail
          refine (HK.out _ HB0).mono ?_
          rintro e _ ⟨rfl, rfl⟩
          go_wp2_with fail
          refine (HK2.out _ (HL.out.mono HB2.out)).mono ?_
          rintro e _ ⟨rfl, rfl⟩
          go_wp2_with (first | (refine step_str rfl 23 9 5 (.tmp 81) rfl _ (nx + x - nx) _ ((l.drop nx).take x) rfl Try.underlying23 Try.underlying5 Try.underlying9 (by rw [List.length_take, List.length_drop, ← hn.out]; omega) (RdB.take (RdB.dropA (HL.out.mono HB2.out) nx cap (by rw [← hn.out]; omega)) x) s hs.out ?_) | (refine step_storeField rfl 9 (.tmp 83) (.tmp 82) rfl rfl (w.heap.size + 1) 3 (.string s) rfl rfl 40 #[.int .i64 (m : Int), .int .i64 ((2 : Nat) : Int), .int .u64 0, .string ⟨#[]⟩] #[.int .i64 (m : Int), .int .i64 ((2 : Nat) : Int), .int .u64 0, .string s] H82 (by kernel_rfl) (by show 3 < 4; decide) rfl (by simp) ?_; intro w6 h1 h2; have H86 := h1; have HW6 := HW2.grown h2 (fun g hg => by obtain rfl := Option.some.inj hg; omega); have HB6 := HB2.out.grown h2 (by simp; omega) (fun g hg => by obtain rfl := Option.some.inj hg; omega); clear h1 h2) | (refine step_loadRow rfl 40 (.tmp 10) rfl (w.heap.size + 1) rfl H86 aggFd ?_) | (refine step_storeRow rfl 40 (.tmp 4) (.tmp 92) rfl rfl w.heap.size #[.int .i64 (m : Int), .int .i64 ((2 : Nat) : Int), .int .u64 0, .string s] rfl rfl 40 zeroFd (by exact HW6) aggFd.2 rfl (by simp [Value.oneCell']) ?_; intro w7 h1 h2; have HB7 := HB6.grown h2 HB6.size (fun g hg => by obtain rfl := Option.some.inj hg; omega)))
          all_goals exact bodyPost_ret (results_row3 (p := 4) (q := 5) (r := 6) (u := .int .i64 ((nx : Int) + x)) (v := .bool true) rfl rfl h1 aggFd rfl rfl) rfl (SO.out _ m 2 0 s _ _ (k1 + k2 + x) HS hs (by have := HNX.out; omega) HB7)
      · have her0 : ((270 : Nat) == 0) = false := rfl
        rw [her0] at HK2
        have HN : Hid (ro = none) := by show _ = _; rw [HRR.out, if_pos (.inl (by decide))]
        have HB6 := HB2.out
        have HW6 := HW2
        clear her0 HRR
        go_enter Try.func46, Try.ntmps46
        go_wp2_with fail
        refine (HK.out _ HB0).mono ?_
        rintro e _ ⟨rfl, rfl⟩
        go_wp2_with fail
        refine (HK2.out _ (HL.out.mono HB2.out)).mono ?_
        rintro e _ ⟨rfl, rfl⟩
        go_wp2_with (first | (refine step_storeRow rfl 40 (.tmp 4) (.tmp 90) rfl rfl w.heap.size zeroFd rfl rfl 40 zeroFd (by exact HW6) aggFd.2 rfl zeroFd_one ?_; intro w7 h1 h2; have hb7 := HB6.grown h2 HB6.size (fun g hg => by obtain rfl := Option.some.inj hg; omega)))
        exact bodyPost_ret (results_row3 (p := 4) (q := 5) (r := 6) (u := .int .i64 (at0 : Int)) (v := .bool false) rfl rfl h1 aggFd rfl rfl) rfl (NO.out _ HN hb7)
    · have HN : Hid (ro = none) := by show _ = _; rw [(hgg ht0 (by omega)).out, if_neg ht2]
      have q0 : ((t : Int) == 0) = false := by simp; omega
      have q1 : ((t : Int) == 1) = false := by simp; omega
      have q5 : ((t : Int) == 5) = false := by simp; omega
      have q2 : ((t : Int) == 2) = false := by simp; omega
      have HB6 := HB2.out
      have HW6 := HW2
      clear hgg hww ht0 ht1 ht5 ht2
      go_enter Try.func46, Try.ntmps46
      go_wp2_with (first | (go_at_call 14; refine (HK.out _ HB0).mono ?_; rintro e _ ⟨rfl, rfl⟩) | (refine step_storeRow rfl 40 (.tmp 4) (.tmp 90) rfl rfl w.heap.size zeroFd rfl rfl 40 zeroFd (by exact HW6) aggFd.2 rfl zeroFd_one ?_; intro w7 h1 h2; have hb7 := HB6.grown h2 HB6.size (fun g hg => by obtain rfl := Option.some.inj hg; omega)))
      exact bodyPost_ret (results_row3 (p := 4) (q := 5) (r := 6) (u := .int .i64 (at0 : Int)) (v := .bool false) rfl rfl h1 aggFd rfl rfl) rfl (NO.out _ HN hb7)
end Go.Proofs.Ytomfdiomakjeoaa
