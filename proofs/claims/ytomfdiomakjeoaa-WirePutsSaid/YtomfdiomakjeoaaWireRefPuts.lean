/- The document's Bytes (lexiconref17). -/
import Derived.Test.YtomfdiomakjeoaaWireRefTold
namespace Go.Proofs.Ytomfdiomakjeoaa
open Go.RowKit

theorem told_le (f : Fd) (h : f.Ok) : (told f).length ≤ 20 + f.bytes.length ∨ 18446744073709551616 ≤ f.bytes.length := by
  have h1 := h.n1
  have h2 := h.t1
  have hw := vput_len10 h.w1
  have ht : (vput (8 * f.num.toNat + f.typ.toNat)).length ≤ 10 := vput_len 9 _ (by omega)
  by_cases hb : f.bytes.length < 18446744073709551616
  · have hl : (vput f.bytes.length).length ≤ 10 := vput_len10 hb
    left
    unfold told
    rw [List.length_append]
    split
    · omega
    · split
      · rw [lowB_length]; split <;> omega
      · rw [List.length_append]; omega
  · right; omega
set_option maxRecDepth 100000 in
set_option maxHeartbeats 2000000 in
theorem refbytes_any (a : Option Addr) (fs : List Fd) (n cap : Nat) (w : World) (hn : Hid (n = fs.length)) (hc : n ≤ cap) (hok : Hid (∀ f ∈ fs, f.Ok)) (hlen : Hid ((tolds fs).length + 100 ≤ 140737488355328)) (hbl : Hid (∀ f ∈ fs, f.bytes.length ≤ 1099511627776)) (hn2 : n ≤ 140737488355328) (hl : RdF w a fs) :
    Calls Try.prog 24 #[.slice a n cap] w fun e w' =>
      ∃ v, e = .returned (.tuple #[v, .int .i64 ((bytesOf fs).2 : Int)]) ∧ OwnB w' w.heap.size 5 v (bytesOf fs).1 ∧ Below w.heap.size w w' := by
  have HL := Lib.hid hl
  clear hl
  obtain ⟨po, hpo⟩ : ∃ po, bytesOf fs = po := ⟨_, rfl⟩
  rw [hpo]
  have hpk : po = bytesOf fs := hpo.symm
  have hpn : fs.all mayB = false → po = ([], 2) := fun h => by rw [hpk]; unfold bytesOf; rw [if_neg (by rw [h]; simp)]
  have hpy : fs.all mayB = true → po = if (tolds fs).length ≤ 1048576 then (tolds fs, 0) else ([], 3) := fun h => by rw [hpk]; unfold bytesOf; rw [if_pos h]
  have HPN := Lib.hid hpn
  have HPK := Lib.hid hpy
  clear hpo hpk hpn hpy
  go_enter Try.func24, Try.ntmps24
  go_wp2
  go_loopw [5] (fun i wr => Below w.heap.size w wr ∧ ∃ k : Nat, k ≤ n ∧ i = .int .i64 k ∧ (fs.take k).all mayB = true) (fun i _ => n - (intOf i).toNat)
  case atStart => exact ⟨Below.refl _ _, 0, Nat.zero_le _, rfl, rfl⟩
  case round =>
    obtain ⟨hb, k, hk, rfl, hall⟩ := hrel
    have HB := Lib.hid hb
    have HA := Lib.hid hall
    clear hb hall
    by_cases hkn : k < n
    · have hkl : k < fs.length := by rw [← hn.out]; omega
      have HS1 := Lib.hid (List.take_succ_eq_append_getElem hkl)
      obtain ⟨b2, off, rfl, hlt, hcell⟩ := HL.out.at (by omega)
      have hck := fun j v h => (HB.out.cell (p := (⟨b2, off + k * 4, none⟩ : Addr).add j) (by unfold Addr.add; split <;> exact hlt)).trans (hcell k hkl j v h)
      obtain ⟨f, hf⟩ : ∃ f, fs[k] = f := ⟨_, rfl⟩
      rw [hf] at hck
      have HC := Lib.hid hck
      have HF := Lib.hid hf
      obtain ⟨r, hr⟩ : ∃ r, mayB f = r := ⟨_, rfl⟩
      have hcall := fun w' => refmay_any f w'
      rw [hr] at hcall
      have HCALL := Lib.hid hcall
      have HR := Lib.hid hr
      clear hcell hck hf hcall hr
      cases r with
      | true =>
        go_wp2_with (first | (refine step_loadCells rfl 40 (.tmp 15) rfl ⟨b2, off + k * 4, none⟩ rfl (fdC f) aggFd HC.out ?_) | (go_at_call 41; refine (HCALL.out _).mono ?_; rintro e w1 ⟨rfl, hb1⟩; have HB1 := Lib.hid (HB.out.trans (hb1.mono HB.out.size)); clear hb1))
        refine ⟨⟨HB1.out, k + 1, by omega, by go_num, ?_⟩, by simp [intOf]; omega⟩
        rw [HS1.out, List.all_append, HA.out, HF.out, Bool.true_and, List.all_cons, List.all_nil, Bool.and_true]
        exact HR.out
      | false =>
        have hno : fs.all mayB = false := by
          rw [List.all_eq_false]
          exact ⟨fs[k], List.getElem_mem hkl, by rw [HF.out, HR.out]; decide⟩
        have HPE := Lib.hid (HPN.out hno)
        clear hno
        go_wp2_with (first | (refine step_loadCells rfl 40 (.tmp 15) rfl ⟨b2, off + k * 4, none⟩ rfl (fdC f) aggFd HC.out ?_) | (go_at_call 41; refine (HCALL.out _).mono ?_; rintro e w1 ⟨rfl, hb1⟩; have HB1 := Lib.hid (HB.out.trans (hb1.mono HB.out.size)); clear hb1))
        go_ret2
        rw [HPE.out]
        exact ⟨_, rfl, OwnB.nil _ _ _, HB1.out⟩
    · obtain rfl : n = k := by omega
      have he : fs.take n = fs := by rw [hn.out, List.take_length]
      have hall : fs.all mayB = true := by have := HA.out; rwa [he] at this
      have HALL := Lib.hid hall
      clear HA he hall
      go_wp2
      go_loopw [4, 6] (fun v i wr => Below w.heap.size w wr ∧ ∃ k : Nat, k ≤ n ∧ i = .int .i64 k ∧ OwnB wr w.heap.size 5 v (tolds (fs.take k))) (fun _ i _ => n - (intOf i).toNat)
      case atStart => exact ⟨HB.out, 0, Nat.zero_le _, rfl, OwnB.nil _ _ _⟩
      case round =>
        obtain ⟨hb, k, hk, rfl, ho⟩ := hrel
        have HB := Lib.hid hb
        have HO := Lib.hid ho
        clear hb ho
        by_cases hkn : k < n
        · have hkl : k < fs.length := by rw [← hn.out]; omega
          obtain ⟨b2, off, rfl, hlt, hcell⟩ := HL.out.at (by omega)
          have hck := fun j v h => (HB.out.cell (p := (⟨b2, off + k * 4, none⟩ : Addr).add j) (by unfold Addr.add; split <;> exact hlt)).trans (hcell k hkl j v h)
          have htl : tolds (fs.take (k + 1)) = tolds (fs.take k) ++ told fs[k] := by rw [List.take_succ_eq_append_getElem hkl]; unfold tolds; rw [List.flatMap_append]; simp
          have hle : (tolds (fs.take (k + 1))).length ≤ (tolds fs).length := by
            conv => rhs; rw [← List.take_append_drop (k + 1) fs]
            unfold tolds; rw [List.flatMap_append, List.length_append]; exact Nat.le_add_right _ _
          have hOk := hok.out _ (List.getElem_mem hkl)
          have hmay := List.all_eq_true.1 HALL.out fs[k] (List.getElem_mem hkl)
          have hbf := hbl.out _ (List.getElem_mem hkl)
          obtain ⟨f, hf⟩ : ∃ f, fs[k] = f := ⟨_, rfl⟩
          rw [hf] at hck htl hOk hmay hbf
          obtain ⟨m, t, word, bytes, rfl, hm1, hm2, ht⟩ := may_parts hmay
          have hcall := fun w' => reftold_any m t word bytes hm1 hm2 ht hOk.w1 hbf w'
          rw [htl, List.length_append] at hle
          have HLE : Hid ((tolds (fs.take k)).length + (told ⟨m, t, word, bytes⟩).length ≤ 140737488355328) := by show _ ≤ _; have := hlen.out; omega
          obtain ⟨F, hF⟩ : ∃ F : Fd, (⟨m, t, word, bytes⟩ : Fd) = F := ⟨_, rfl⟩
          rw [hF] at hck htl hcall HLE
          have HC := Lib.hid hck
          have HTL := Lib.hid htl
          have HCALL := Lib.hid hcall
          clear hcell hck htl hle hOk hmay hbf hcall hf hF ht
          go_wp2_with (first | (refine step_loadCells rfl 40 (.tmp 28) rfl ⟨b2, off + k * 4, none⟩ rfl (fdC F) aggFd HC.out ?_) | (go_at_call 42; refine (HCALL.out _).mono ?_; rintro e w7 ⟨v7, rfl, ho7, hb7⟩; obtain ⟨a7, c7, rfl, hc7, hr7⟩ := ho7.rd; have HR7 := Lib.hid hr7; have HO7 := Lib.hid (HO.out.kept hb7 (Nat.le_refl _)); have HB7 := Lib.hid (HB.out.trans (hb7.mono HB.out.size)); clear ho7 hb7 hr7 hc7) | (at_builtin; refine step_appendB rfl (.tmp 25) (.tmp 30) rfl eltB w.heap.size _ (tolds (fs.take k)) rfl _ _ _ (told F) rfl HO7.out rfl HR7.out HLE.out HB7.out.size ?_; intro v8 w8 h81 h82; rw [← HTL.out] at h81; have HF := Lib.hid h81; have HF2 := Lib.hid (HB7.out.trans h82); clear h81 h82))
          exact ⟨⟨HF2.out, k + 1, by omega, by go_num, HF.out⟩, by simp [intOf]; omega⟩
        · obtain rfl : n = k := by omega
          have he : fs.take n = fs := by rw [hn.out, List.take_length]
          rw [he] at HO
          obtain ⟨a4, c4, rfl, hc4, hr4⟩ := HO.out.rd
          obtain ⟨q, hq⟩ : ∃ q, (tolds fs).length = q := ⟨_, rfl⟩
          have HH := Lib.hid HO.out
          have hpk := HPK.out HALL.out
          rw [hq] at HH hc4 hpk ⊢
          by_cases hbig : q ≤ 1048576
          · rw [if_pos hbig] at hpk
            have HPE := Lib.hid hpk
            clear hr4 hpk
            go_wp2
            go_ret2
            rw [HPE.out]
            exact ⟨_, rfl, HH.out, HB.out⟩
          · rw [if_neg hbig] at hpk
            have HPE := Lib.hid hpk
            clear hr4 hpk
            go_wp2
            go_ret2
            rw [HPE.out]
            exact ⟨_, rfl, OwnB.nil _ _ _, HB.out⟩
end Go.Proofs.Ytomfdiomakjeoaa
