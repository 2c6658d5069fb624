/- How fields are put: slices.ContainsFunc over fields, and wire.Bytes. -/
import Derived.Test.YtomfdiomakjeoaaWireFd
namespace Go.Proofs.Ytomfdiomakjeoaa
open Go.RowKit

/-- The cells of some fields. -/
def fdsC (fs : List Fd) : List Value := fs.flatMap fdC
theorem fdsC_length (fs : List Fd) : (fdsC fs).length = 4 * fs.length := by
  induction fs with
  | nil => rfl
  | cons f r ih =>
    show (fdC f ++ fdsC r).length = _
    rw [List.length_append, ih, List.length_cons]
    show 4 + _ = _
    omega
theorem fdsC_get (fs : List Fd) : ∀ (k : Nat) (hk : k < fs.length) (j : Nat) (v : Value), (fdC fs[k])[j]? = some v → (fdsC fs)[4 * k + j]? = some v := by
  induction fs with
  | nil => intro k hk; simp at hk
  | cons f r ih =>
    intro k hk j v h
    show (fdC f ++ fdsC r)[4 * k + j]? = some v
    have hj : j < 4 := by
      obtain ⟨hj, _⟩ := List.getElem?_eq_some_iff.1 h
      exact hj
    cases k with
    | zero => rw [List.getElem?_append_left (by show 4 * 0 + j < 4; omega)]; simpa using h
    | succ k =>
      rw [List.getElem?_append_right (by show 4 ≤ _; omega)]
      have := ih k (by simpa using hk) j v (by simpa using h)
      rw [show 4 * (k + 1) + j - (fdC f).length = 4 * k + j by show 4 * (k + 1) + j - 4 = _; omega]
      exact this
/-- Some fields can be read at an address. -/
def RdF (w : World) (a : Option Addr) (fs : List Fd) : Prop := Rd w a (fdsC fs)
theorem RdF.mono {w w' : World} {a : Option Addr} {fs : List Fd} (h : RdF w a fs) (hb : Below w.heap.size w w') : RdF w' a fs := Rd.mono h hb
theorem RdF.at {w : World} {a : Option Addr} {fs : List Fd} (h : RdF w a fs) (hl : 0 < fs.length) :
    ∃ b off, a = some ⟨b, off, none⟩ ∧ b < w.heap.size ∧ ∀ k (hk : k < fs.length) j v, (fdC fs[k])[j]? = some v → w.cell? ((⟨b, off + k * 4, none⟩ : Addr).add j) = some v := by
  rcases h with h | ⟨b, off, ha, hlt, hc⟩
  · have := fdsC_length fs
    rw [h] at this
    simp at this
    omega
  · refine ⟨b, off, ha, hlt, fun k hk j v hv => ?_⟩
    obtain ⟨hj, he⟩ := List.getElem?_eq_some_iff.1 (fdsC_get fs k hk j v hv)
    have hadd : (⟨b, off + k * 4, none⟩ : Addr).add j = ⟨b, off + (4 * k + j), none⟩ := by unfold Addr.add; split <;> simp_all; omega
    rw [hadd, hc _ hj, he]

set_option maxRecDepth 100000 in
set_option maxHeartbeats 400000 in
theorem indexfunc_any (a : Option Addr) (fs : List Fd) (n cap : Nat) (w : World) (hn : Hid (n = fs.length)) (hc : n ≤ cap) (hn2 : n ≤ 140737488355328) (hl : RdF w a fs) :
    Calls Try.prog 52 #[.slice a n cap, .func (.func 38) #[] #[]] w fun e w' =>
      (∃ i : Int, e = .returned (.int .i64 i) ∧ (0 ≤ i ↔ ¬ fs.all mayB = true)) ∧ Below w.heap.size w w' := by
  have HL := Lib.hid hl
  clear hl
  go_enter Try.func52, Try.ntmps52
  go_wp2
  go_loopw [8] (fun i wr => Below w.heap.size w wr ∧ ∃ k : Nat, k ≤ n ∧ i = .int .i64 k ∧ (fs.take k).all mayB = true) (fun i _ => n - (intOf i).toNat)
  case atStart => exact ⟨Below.refl _ _, 0, Nat.zero_le _, rfl, rfl⟩
  case round =>
    obtain ⟨hb, k, hk, rfl, hall⟩ := hrel
    have HB := Lib.hid hb
    have HA := Lib.hid hall
    clear hb hall
    by_cases hkn : k < n
    · have hkl : k < fs.length := by rw [← hn.out]; omega
      obtain ⟨b2, off, rfl, hlt, hcell⟩ := HL.out.at (by omega)
      have hck := fun j v h => (HB.out.cell (p := (⟨b2, off + k * 4, none⟩ : Addr).add j) (by unfold Addr.add; split <;> exact hlt)).trans (hcell k hkl j v h)
      have HC := Lib.hid hck
      clear hcell hck
      go_wp2_with (first | (go_at_call 38; refine (notmay_any fs[k] _).mono ?_; rintro e w1 ⟨rfl, hb1⟩) | (refine step_loadCells rfl 40 (.tmp 14) rfl ⟨b2, off + k * 4, none⟩ rfl (fdC fs[k]) aggFd HC.out ?_))
      · go_ret
        refine ⟨⟨k, rfl, ⟨fun _ h => ?_, fun _ => by omega⟩⟩, HB.out.trans (hb1.mono HB.out.size)⟩
        have h2 := List.all_eq_true.1 h fs[k] (List.getElem_mem hkl)
        have h3 : (!mayB fs[k]) = true := by assumption
        rw [h2] at h3; cases h3
      · refine ⟨⟨HB.out.trans (hb1.mono HB.out.size), k + 1, by omega, by go_num, ?_⟩, by simp [intOf]; omega⟩
        have h3 : (!mayB fs[k]) = false := by assumption
        rw [List.take_succ_eq_append_getElem hkl, List.all_append, HA.out]
        simpa using h3
    · obtain rfl : k = n := by omega
      have he : fs.take k = fs := by rw [hn.out, List.take_length]
      rw [he] at HA
      go_wp2
      go_ret
      exact ⟨⟨-1, rfl, ⟨fun h => by omega, fun h => absurd HA.out h⟩⟩, HB.out⟩

set_option maxRecDepth 100000 in
theorem containsfunc_any (a : Option Addr) (fs : List Fd) (n cap : Nat) (w : World) (hn : Hid (n = fs.length)) (hc : n ≤ cap) (hn2 : n ≤ 140737488355328) (hl : RdF w a fs) :
    Calls Try.prog 37 #[.slice a n cap, .func (.func 38) #[] #[]] w fun e w' =>
      e = .returned (.bool (!fs.all mayB)) ∧ Below w.heap.size w w' := by
  go_enter Try.func37, Try.ntmps37
  go_wp2_with fail
  refine (indexfunc_any a fs n cap w hn hc hn2 hl).mono ?_
  rintro e w1 ⟨⟨i, rfl, hi⟩, hb⟩
  have HI := Lib.hid hi
  clear hi
  go_wp2
  go_ret
  refine ⟨congrArg (fun b => Ending.returned (Value.bool b)) ?_, hb⟩
  cases hall : fs.all mayB with
  | true => exact decide_eq_false fun h => HI.out.1 h hall
  | false => exact decide_eq_true (HI.out.2 (by rw [hall]; decide))

/-- How a field is told. -/
def told (f : Fd) : List UInt8 :=
  vput (8 * f.num.toNat + f.typ.toNat) ++ (if f.typ = 0 then vput f.word else if f.typ = 1 ∨ f.typ = 5 then lowB f.word (if f.typ = 1 then 8 else 4) else vput f.bytes.length ++ f.bytes)
def tolds (fs : List Fd) : List UInt8 := fs.flatMap told
/-- What Bytes answers. -/
def bytesOf (fs : List Fd) : List UInt8 × Nat :=
  if fs.all mayB then (if (tolds fs).length ≤ 1048576 then (tolds fs, 0) else ([], 3)) else ([], 2)
theorem may_parts {f : Fd} (h : mayB f = true) : ∃ (m t word : Nat) (bytes : List UInt8), f = ⟨m, t, word, bytes⟩ ∧ 1 ≤ m ∧ m < 536870912 ∧ (t = 0 ∨ t = 1 ∨ t = 5 ∨ t = 2) := by
  obtain ⟨num, typ, word, bytes⟩ := f
  unfold mayB at h
  dsimp only at h
  split at h
  · cases h
  · rename_i hn
    have ht : typ = 0 ∨ typ = 1 ∨ typ = 5 ∨ typ = 2 := by
      split at h
      · rename_i h3; omega
      · simp at h; omega
    refine ⟨num.toNat, typ.toNat, word, bytes, ?_, by omega, by omega, by omega⟩
    rw [Int.toNat_of_nonneg (by omega), Int.toNat_of_nonneg (by omega)]
theorem tag_or {m t : Nat} (hm : m < 536870912) (ht : t = 0 ∨ t = 1 ∨ t = 5 ∨ t = 2) : bits .or .u64 ((m : Int) * 8) (t : Int) = ((8 * m + t : Nat) : Int) := by
  rw [show (m : Int) * 8 = ((8 * m : Nat) : Int) by omega, bits_or_nat .u64 rfl _ _ (by show 8 * m < 18446744073709551616; omega) (by show t < 18446744073709551616; omega)]
  congr 1
  exact (Nat.two_pow_add_eq_or_of_lt (i := 3) (by omega : t < 2 ^ 3) m).symm
theorem OwnB.grown {w w' : World} {base : Nat} {e : TypeId} {v : Value} {l : List UInt8} {row : Option Nat} (h : OwnB w base e v l) (hg : w.grownBy w' row) (hr : ∀ g, row = some g → v.ownBlock ≠ some g) : OwnB w' base e v l := by
  refine ⟨h.1, ?_⟩
  rcases h.2 with h | ⟨g, cap, cur, rfl, hbg, hh, r⟩
  · exact .inl h
  · exact .inr ⟨g, cap, cur, rfl, hbg, (hg.block g (Array.getElem?_eq_some_iff.1 hh).1 (fun e => hr g e.symm rfl)).trans hh, r⟩
set_option maxRecDepth 100000 in
set_option maxHeartbeats 1000000 in
theorem bytes_any (a : Option Addr) (fs : List Fd) (n cap : Nat) (w : World) (hn : Hid (n = fs.length)) (hc : n ≤ cap) (hok : Hid (∀ f ∈ fs, f.Ok)) (hlen : Hid ((tolds fs).length + 100 ≤ 140737488355328)) (hn2 : n ≤ 140737488355328) (hl : RdF w a fs) :
    Calls Try.prog 23 #[.slice a n cap] w fun e w' =>
      ∃ v, e = .returned (.tuple #[v, .int .i64 ((bytesOf fs).2 : Int)]) ∧ OwnB w' w.heap.size 5 v (bytesOf fs).1 ∧ Below w.heap.size w w' := by
  have HL := Lib.hid hl
  clear hl
  go_enter Try.func23, Try.ntmps23
  go_wp2_with fail
  refine (containsfunc_any a fs n cap w hn hc hn2 HL.out).mono ?_
  rintro e w1 ⟨rfl, hb1⟩
  by_cases hall : fs.all mayB = true
  · rw [hall]
    have HB1 := Lib.hid hb1
    clear hb1
    go_wp2
    go_loopw [4, 13] (fun v i wr => Below w.heap.size w wr ∧ ∃ k : Nat, k ≤ n ∧ i = .int .i64 k ∧ OwnB wr w.heap.size 5 v (tolds (fs.take k))) (fun _ i _ => n - (intOf i).toNat)
    case atStart => exact ⟨HB1.out, 0, Nat.zero_le _, rfl, OwnB.nil _ _ _⟩
    case round =>
      obtain ⟨hb, k, hk, rfl, ho⟩ := hrel
      have HB := Lib.hid hb
      have HO := Lib.hid ho
      clear hb ho
      by_cases hkn : k < n
      · have hkl : k < fs.length := by rw [← hn.out]; omega
        obtain ⟨b2, off, rfl, hlt, hcell⟩ := HL.out.at (by omega)
        have hck := fun j v h => (HB.out.cell (p := (⟨b2, off + k * 4, none⟩ : Addr).add j) (by unfold Addr.add; split <;> exact hlt)).trans (hcell k hkl j v h)
        have htl : tolds (fs.take (k + 1)) = tolds (fs.take k) ++ told fs[k] := by rw [List.take_succ_eq_append_getElem hkl]; unfold tolds; rw [List.flatMap_append]; simp
        have hle : (tolds (fs.take (k + 1))).length ≤ (tolds fs).length := by
          conv => rhs; rw [← List.take_append_drop (k + 1) fs]
          unfold tolds; rw [List.flatMap_append, List.length_append]; exact Nat.le_add_right _ _
        have HLE := Lib.hid (Nat.le_trans (Nat.add_le_add_right hle 100) hlen.out)
        have HTL := Lib.hid htl
        have hOk := hok.out _ (List.getElem_mem hkl)
        have hmay := List.all_eq_true.1 hall fs[k] (List.getElem_mem hkl)
        obtain ⟨f, hf⟩ : ∃ f, fs[k] = f := ⟨_, rfl⟩
        rw [hf] at hck HTL hOk hmay
        have HC := Lib.hid hck
        clear hcell hck hle htl hf
        obtain ⟨m, t, word, bytes, rfl, hm1, hm2, ht⟩ := may_parts hmay
        have hw := hOk.w1
        dsimp only at hw
        clear hOk hmay
        obtain ⟨s, hs⟩ : ∃ s, str bytes = s := ⟨_, rfl⟩
        have hsz6 := HO.out.sep (Nat.le_refl _)
        obtain ⟨C, hC⟩ : ∃ C, (fdC ⟨m, t, word, bytes⟩).toArray = C := ⟨_, rfl⟩
        have hC4 : C = #[.int .i64 (m : Int), .int .i64 (t : Int), .int .u64 (word : Int), .string s] := by rw [← hC, ← hs]; rfl
        have hor := tag_or hm2 ht
        have hb6 : RowAt (wr.alloc (.cells #[.int .i64 (m : Int), .int .i64 (t : Int), .int .u64 (word : Int), .string s] 40)) wr.heap.size 40 #[.int .i64 (m : Int), .int .i64 (t : Int), .int .u64 (word : Int), .string s] := RowAt.new _ _ _
        go_wp2_with (refine step_loadCells rfl 40 (.tmp 15) rfl ⟨b2, off + k * 4, none⟩ rfl (fdC ⟨m, t, word, bytes⟩) aggFd HC.out ?_; rw [hC, hC4])
        clear hor hC hC4 C HC
        have hS : (tolds (fs.take k)).length + (told ⟨m, t, word, bytes⟩).length + 100 ≤ 140737488355328 := by
          have h := HLE.out; rw [HTL.out, List.length_append] at h; exact h
        have HS := Lib.hid hS
        clear hS
        refine (varint_on (8 * m + t) (by omega) _ _ w.heap.size _ (HO.out.kept (below_alloc _) (Nat.le_refl _)) (by have := HB.out.size; simp; omega) (by have := HS.out; omega)).mono ?_
        rintro e w3 ⟨v1, rfl, ho1, on1⟩
        have H6 := Lib.hid (hb6.onto on1 hsz6)
        have hs1 := on1.sep (b := wr.heap.size) (by simp) hsz6
        have HB3 := Lib.hid (HB.out.trans (((Below.refl _ wr).alloc HB.out.size _).trans (on1.down (HO.out.kept (below_alloc _) (Nat.le_refl _)) (by have := HB.out.size; simp; omega))))
        have HO3 := Lib.hid ho1
        clear ho1 on1 hb6 hsz6
        obtain ⟨c0, c1, c2, c3⟩ := H6.out.cells4
        go_wp2_with fail
        have hz3 := H6.out.lt
        have hb3 := HB3.out.size
        refine (wayof_any (t : Int) _).mono ?_
        rintro e w4 ⟨hb4, hway⟩
        have HB4 := Lib.hid (HB3.out.trans (hb4.mono hb3))
        have H64 := H6.out.mono hb4 hz3
        have HO4 := Lib.hid (HO3.out.kept hb4 (Nat.le_refl _))
        have hsz4 := hb4.size
        have close : ∀ (v' : Value) (w' : World), OwnB w' w.heap.size 5 v' (tolds (fs.take k) ++ told ⟨m, t, word, bytes⟩) → Below w.heap.size w w' →
            Below w.heap.size w w' ∧ ∃ k_1 : Nat, k_1 ≤ n ∧ Value.int .i64 ((k : Int) + 1) = .int .i64 (k_1 : Int) ∧ OwnB w' w.heap.size 5 v' (tolds (fs.take k_1)) := fun v' w' h1 h2 =>
          ⟨h2, k + 1, by omega, by go_num, by rw [HTL.out]; exact h1⟩
        have CL := Lib.hid close
        have hs3 : ∀ b, w3.heap.size ≤ b → v1.ownBlock ≠ some b := fun b hb => HO3.out.sep hb
        have hs4 : ∀ b, w4.heap.size ≤ b → v1.ownBlock ≠ some b := fun b hb => HO4.out.sep hb
        have hmeas : n - (k + 1) < n - k := by omega
        clear close hb4 H6 HO3 HTL HLE c0 c1 c2 c3
        rcases ht with rfl | ht
        · have hw0 : e = .returned (.tuple #[.agg wayVar, .bool true]) := by
            rcases hway with ⟨_, h⟩ | ⟨h, _⟩ | ⟨h, _⟩
            · exact h
            · omega
            · exact absurd rfl h
          subst hw0
          clear hway
          have htold : (tolds (fs.take k) ++ vput (8 * m + 0)) ++ vput word = tolds (fs.take k) ++ told ⟨m, ((0 : Nat) : Int), word, bytes⟩ := by
            rw [List.append_assoc]; rfl
          have HT := Lib.hid htold
          have HS2 : Hid ((tolds (fs.take k) ++ vput (8 * m + 0)).length + 10 ≤ 140737488355328) := by
            show _ ≤ _
            have h := HS.out
            have h2 := congrArg List.length htold
            simp only [List.length_append] at h2 ⊢
            omega
          clear htold
          go_wp2_with (first | (refine step_storeRow rfl 74 (.tmp 7) (.tmp 31) rfl rfl w4.heap.size wayVar rfl rfl 74 #[Value.nilFunc, Value.nilFunc] (by exact RowAt.new w4 _ _) aggWay.2 rfl (by simp [wayVar, Value.oneCell']) ?_; intro w5 h1 h2; obtain ⟨d0, d1⟩ := h1.cells2; obtain ⟨c0, c1, c2, c3⟩ := ((H64.below (below_alloc _)).grown h2 (fun g hg => by obtain rfl := Option.some.inj hg; omega)).cells4; have HO5 := Lib.hid ((HO4.out.kept (below_alloc _) (Nat.le_refl _)).grown h2 (fun g hg => by obtain rfl := Option.some.inj hg; exact fun e => hs4 _ (Nat.le_refl _) e)); have HB5 := Lib.hid ((HB4.out.alloc HB4.out.size _).grown h2 (by have := HB4.out.size; simp; omega) (fun g hg => by obtain rfl := Option.some.inj hg; exact HB4.out.size)); clear h1 h2) | (go_at_call 36; refine (varint_any word hw _ _ w.heap.size _ HO5.out HB5.out.size HS2.out).mono ?_; rintro e w6 ⟨v2, rfl, ho2, hb6⟩; rw [HT.out] at ho2; have HF := Lib.hid (CL.out _ _ ho2 (HB5.out.trans hb6)); clear ho2 hb6))
          go_roundw
          case rel => exact HF.out
          case measure => simp [intOf]; omega
        · by_cases ht2 : t = 2
          · subst ht2
            have hw0 : e = .returned (.tuple #[.agg wayNil, .bool false]) := by
              rcases hway with ⟨h, _⟩ | ⟨h, _⟩ | ⟨_, _, _, h⟩
              · omega
              · omega
              · exact h
            subst hw0
            clear hway
            have htold : (tolds (fs.take k) ++ vput (8 * m + 2)) ++ vput bytes.length ++ bytes = tolds (fs.take k) ++ told ⟨m, ((2 : Nat) : Int), word, bytes⟩ := by
              rw [List.append_assoc, List.append_assoc]; rfl
            have HT := Lib.hid htold
            have h := HS.out
            have h2 := congrArg List.length htold
            simp only [List.length_append] at h2
            have HS2 : Hid ((tolds (fs.take k) ++ vput (8 * m + 2)).length + 10 ≤ 140737488355328) := by
              show _ ≤ _
              simp only [List.length_append]
              omega
            have HS3 : Hid (((tolds (fs.take k) ++ vput (8 * m + 2)) ++ vput bytes.length).length + bytes.length ≤ 140737488355328) := by
              show _ ≤ _
              simp only [List.length_append]
              omega
            have hbl : bytes.length < 18446744073709551616 := by omega
            have hsl : s.size = bytes.length := by rw [← hs]; simp [str, ByteArray.size]
            obtain ⟨q, hq⟩ : ∃ q, bytes.length = q := ⟨_, rfl⟩
            rw [hq] at hbl hsl
            have hq63 : q < 9223372036854775808 := by omega
            clear htold h h2
            go_wp2_with (first | (refine step_storeRow rfl 74 (.tmp 7) (.tmp 31) rfl rfl w4.heap.size wayNil rfl rfl 74 #[Value.nilFunc, Value.nilFunc] (by exact RowAt.new w4 _ _) aggWay.2 rfl (by simp [wayNil, Value.oneCell']) ?_; intro w5 h1 h2; obtain ⟨c0, c1, c2, c3⟩ := ((H64.below (below_alloc _)).grown h2 (fun g hg => by obtain rfl := Option.some.inj hg; omega)).cells4; have H65 := Lib.hid ((H64.below (below_alloc _)).grown h2 (fun g hg => by obtain rfl := Option.some.inj hg; omega)); have HO5 := Lib.hid ((HO4.out.kept (below_alloc _) (Nat.le_refl _)).grown h2 (fun g hg => by obtain rfl := Option.some.inj hg; exact fun e => hs4 _ (Nat.le_refl _) e)); have HB5 := Lib.hid ((HB4.out.alloc HB4.out.size _).grown h2 (by have := HB4.out.size; simp; omega) (fun g hg => by obtain rfl := Option.some.inj hg; exact HB4.out.size)); clear h1 h2) | (go_at_call 36; refine (varint_on q hbl _ _ w.heap.size _ HO5.out HB5.out.size HS2.out).mono ?_; rintro e w6 ⟨v2, rfl, ho2, on6⟩; rw [← hq] at ho2; have HB6 := Lib.hid (HB5.out.trans (on6.down HO5.out HB5.out.size)); obtain ⟨c0, c1, c2, c3⟩ := (H65.out.onto on6 hs1).cells4; have HO6 := Lib.hid ho2; clear ho2 on6) | (at_builtin; refine step_appendS rfl (.tmp 46) (.tmp 48) rfl eltB Try.underlying9 w.heap.size _ _ rfl bytes s hs rfl HO6.out HS3.out HB6.out.size ?_; intro v7 w7 h71 h72; rw [HT.out] at h71; have HF := Lib.hid (CL.out _ _ h71 (HB6.out.trans h72)); clear h71 h72))
            exact ⟨HF.out, by simp [intOf]; omega⟩
          · have ht15 : t = 1 ∨ t = 5 := by omega
            obtain ⟨bn, hbn, hbox, rfl⟩ : ∃ b, w3.heap.size ≤ b ∧ Box w4 b 3 (.int .i64 ((if t = 1 then 8 else 4 : Nat) : Int)) ∧ e = .returned (.tuple #[.agg (wayV b), .bool true]) := by
              rcases hway with ⟨h, _⟩ | ⟨_, b, h1, h2, h3⟩ | ⟨_, h1, h5, h⟩
              · omega
              · refine ⟨b, h1, ?_, h3⟩
                rcases ht15 with rfl | rfl
                · exact h2
                · exact h2
              · omega
            obtain ⟨sz, hszn⟩ : ∃ sz : Nat, (if t = 1 then 8 else 4) = sz := ⟨_, rfl⟩
            have hsz8 : sz ≤ 8 := by rw [← hszn]; split <;> omega
            rw [hszn] at hbox
            clear hway
            have htold : (tolds (fs.take k) ++ vput (8 * m + t)) ++ lowB word sz = tolds (fs.take k) ++ told ⟨m, (t : Int), word, bytes⟩ := by
              rw [List.append_assoc]
              congr 1
              unfold told
              dsimp only
              rw [if_neg (by omega), if_pos (by omega)]
              rcases ht15 with rfl | rfl
              · subst hszn; rfl
              · subst hszn; rfl
            have HT := Lib.hid htold
            have HS2 : Hid ((tolds (fs.take k) ++ vput (8 * m + t)).length + 10 ≤ 140737488355328) := by
              show _ ≤ _
              have h := HS.out
              have h2 := congrArg List.length htold
              simp only [List.length_append] at h2 ⊢
              omega
            have HBX := Lib.hid hbox
            have hbn4 := hbox.lt
            have hvb := hs3 bn hbn
            clear htold hbox hszn ht ht15 ht2
            go_wp2_with (first | (refine step_storeRow rfl 74 (.tmp 7) (.tmp 31) rfl rfl w4.heap.size (wayV bn) rfl rfl 74 #[Value.nilFunc, Value.nilFunc] (by exact RowAt.new w4 _ _) aggWay.2 rfl (by simp [wayV, Value.oneCell']) ?_; intro w5 h1 h2; obtain ⟨d0, d1⟩ := h1.cells2; obtain ⟨c0, c1, c2, c3⟩ := ((H64.below (below_alloc _)).grown h2 (fun g hg => by obtain rfl := Option.some.inj hg; omega)).cells4; have HO5 := Lib.hid ((HO4.out.kept (below_alloc _) (Nat.le_refl _)).grown h2 (fun g hg => by obtain rfl := Option.some.inj hg; exact fun e => hs4 _ (Nat.le_refl _) e)); have HB5 := Lib.hid ((HB4.out.alloc HB4.out.size _).grown h2 (by have := HB4.out.size; simp; omega) (fun g hg => by obtain rfl := Option.some.inj hg; exact HB4.out.size)); have HX5 : Hid (Box w5 bn 3 (.int .i64 (sz : Int))) := (h2.block bn (by simp; omega) (fun e => by have := Option.some.inj e; omega)).trans ((Below.heap_alloc w4 _ bn hbn4).trans HBX.out); clear h1 h2) | (go_at_call 57; refine (put_any sz hsz8 word hw _ _ w.heap.size bn _ HO5.out HB5.out.size HS2.out HX5.out).mono ?_; rintro e w6 ⟨v2, rfl, ho2, on6⟩; rw [HT.out] at ho2; have HF := Lib.hid (CL.out _ _ ho2 (HB5.out.trans (on6.down HO5.out HB5.out.size))); clear ho2 on6))
            exact ⟨HF.out, by simp [intOf]; omega⟩
      · obtain rfl : k = n := by omega
        have he : fs.take k = fs := by rw [hn.out, List.take_length]
        rw [he] at HO
        obtain ⟨a4, c4, rfl, hc4, hr4⟩ := HO.out.rd
        have hb : bytesOf fs = if (tolds fs).length ≤ 1048576 then (tolds fs, 0) else ([], 3) := by unfold bytesOf; rw [if_pos hall]
        obtain ⟨q, hq⟩ : ∃ q, (tolds fs).length = q := ⟨_, rfl⟩
        have HH := Lib.hid HO.out
        rw [hq] at HH hb hc4
        rw [hq]
        by_cases hbig : q ≤ 1048576
        · rw [if_pos hbig] at hb
          have HBB := Lib.hid hb
          clear hr4 hb
          go_wp2
          go_ret2
          rw [HBB.out]
          exact ⟨_, rfl, HH.out, HB.out⟩
        · rw [if_neg hbig] at hb
          have HBB := Lib.hid hb
          clear hr4 hb
          go_wp2
          go_ret2
          rw [HBB.out]
          exact ⟨_, rfl, OwnB.nil _ _ _, HB.out⟩
  · rw [Bool.eq_false_iff.2 hall]
    go_wp2
    go_ret2
    have hb : bytesOf fs = ([], 2) := by unfold bytesOf; rw [if_neg hall]
    rw [hb]
    exact ⟨_, rfl, OwnB.nil _ _ _, hb1⟩
end Go.Proofs.Ytomfdiomakjeoaa
