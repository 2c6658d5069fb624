/- The document's May, Told, Bytes and Same (lexiconref17). -/
import Derived.Test.YtomfdiomakjeoaaWireBack
import Derived.Test.YtomfdiomakjeoaaWireRefPack
namespace Go.Proofs.Ytomfdiomakjeoaa
open Go.RowKit

set_option maxRecDepth 100000 in
set_option maxHeartbeats 2000000 in
theorem refmay_any (f : Fd) (w : World) :
    Calls Try.prog 41 #[.agg (fdC f).toArray] w fun e w' => e = .returned (.bool (mayB f)) ∧ Below w.heap.size w w' := by
  obtain ⟨num, typ, word, bytes⟩ := f
  obtain ⟨s, hs⟩ : ∃ s, str bytes = s := ⟨_, rfl⟩
  have HB0 : Below w.heap.size w (w.alloc (.cells #[.int .i64 num, .int .i64 typ, .int .u64 (word : Int), .string s] 40)) := below_alloc _
  rw [show (fdC ⟨num, typ, word, bytes⟩).toArray = #[.int .i64 num, .int .i64 typ, .int .u64 (word : Int), .string s] by rw [← hs]; rfl]
  by_cases hnum : num < 1 ∨ 536870912 ≤ num
  · have hm : mayB ⟨num, typ, word, bytes⟩ = false := by unfold mayB; rw [if_pos hnum]
    rw [hm]
    rcases hnum with h1 | h1
    · go_enter Try.func41, Try.ntmps41
      go_wp2
      go_ret
      exact ⟨rfl, HB0⟩
    · have h2 : ¬ num < 1 := by omega
      go_enter Try.func41, Try.ntmps41
      go_wp2
      go_ret
      exact ⟨rfl, HB0⟩
  · have h1 : ¬ num < 1 := by omega
    have h2 : ¬ 536870912 ≤ num := by omega
    have hsl : (s.toList == []) = decide (bytes = []) := by
      rw [← hs, str_toList]
      cases bytes <;> rfl
    obtain ⟨be, hbe⟩ : ∃ be, decide (bytes = []) = be := ⟨_, rfl⟩
    rw [hbe] at hsl
    have hm : mayB ⟨num, typ, word, bytes⟩ = (if typ = 0 ∨ typ = 1 ∨ typ = 5 then be && (!(typ == 5) || decide ((word : Int) < 4294967296)) else decide (typ = 2) && decide (word = 0)) := by
      unfold mayB; rw [if_neg hnum, ← hbe]
    rw [hm]
    clear hm hnum hbe hs
    by_cases t0 : typ = 0
    · subst t0
      go_enter Try.func41, Try.ntmps41
      go_wp2
      go_ret
      exact ⟨rfl, HB0⟩
    · by_cases t1 : typ = 1
      · subst t1
        go_enter Try.func41, Try.ntmps41
        go_wp2
        go_ret
        exact ⟨rfl, HB0⟩
      · by_cases t2 : typ = 2
        · subst t2
          obtain ⟨wz, hwz⟩ : ∃ wz, decide (word = 0) = wz := ⟨_, rfl⟩
          have hwi : ((word : Int) == 0) = wz := by
            rw [← hwz]
            by_cases h : word = 0
            · subst h; rfl
            · rw [decide_eq_false h]; simp; omega
          rw [hwz]
          clear hwz
          go_enter Try.func41, Try.ntmps41
          go_wp2
          go_ret
          exact ⟨rfl, HB0⟩
        · by_cases t5 : typ = 5
          · subst t5
            cases be with
            | true =>
              go_enter Try.func41, Try.ntmps41
              go_wp2
              go_ret
              exact ⟨rfl, HB0⟩
            | false =>
              go_enter Try.func41, Try.ntmps41
              go_wp2
              go_ret
              exact ⟨rfl, HB0⟩
          · have q0 : (typ == 0) = false := by simpa using t0
            have q1 : (typ == 1) = false := by simpa using t1
            have q2 : (typ == 2) = false := by simpa using t2
            have q5 : (typ == 5) = false := by simpa using t5
            rw [if_neg (by omega), decide_eq_false t2]
            clear t0 t1 t2 t5
            go_enter Try.func41, Try.ntmps41
            go_wp2
            go_ret
            exact ⟨rfl, HB0⟩
set_option maxRecDepth 100000 in
set_option maxHeartbeats 400000 in
theorem refsame_any (a a2 : Option Addr) (fs : List Fd) (n cap cap2 : Nat) (w : World) (hn : Hid (n = fs.length)) (hc : n ≤ 1000000000) (hl : RdF w a fs) (hl2 : RdF w a2 fs) :
    Calls Try.prog 25 #[.slice a n cap, .slice a2 n cap2] w fun e w' => e = .returned (.bool true) ∧ Below w.heap.size w w' := by
  have HL := Lib.hid hl
  have HL2 := Lib.hid hl2
  clear hl hl2
  go_enter Try.func25, Try.ntmps25
  go_wp2
  go_loopw [5] (fun i wr => Below w.heap.size w wr ∧ ∃ k : Nat, k ≤ n ∧ i = .int .i64 k) (fun i _ => n - (intOf i).toNat)
  case atStart => exact ⟨Below.refl _ _, 0, Nat.zero_le _, rfl⟩
  case round =>
    obtain ⟨hb, k, hk, rfl⟩ := hrel
    have HB := Lib.hid hb
    clear hb
    by_cases hkn : k < n
    · have hkl : k < fs.length := by rw [← hn.out]; exact hkn
      obtain ⟨b3, o3, rfl, _, hx3⟩ := fd_cells (HL.out.mono HB.out) (by omega)
      obtain ⟨b9, o9, rfl, _, hx9⟩ := fd_cells (HL2.out.mono HB.out) (by omega)
      obtain ⟨x0, x1, x2, x3⟩ := hx3 k hkl
      obtain ⟨z0, z1, z2, z3⟩ := hx9 k hkl
      obtain ⟨f, hf⟩ : ∃ f, fs[k] = f := ⟨_, rfl⟩
      rw [hf] at x0 x1 x2 x3 z0 z1 z2 z3
      obtain ⟨s, hs⟩ : ∃ s, str f.bytes = s := ⟨_, rfl⟩
      rw [hs] at x3 z3
      have hneq := neq_fd f s
      clear hx3 hx9 hf hs
      go_wp2_with fail
      go_quiet (fail)
      go_wp2
      exact ⟨⟨drewN_below HB.out _, k + 1, by omega, by go_num⟩, by simp [intOf]; omega⟩
    · obtain rfl : n = k := by omega
      go_wp2
      go_ret
      exact ⟨rfl, HB.out⟩
end Go.Proofs.Ytomfdiomakjeoaa
