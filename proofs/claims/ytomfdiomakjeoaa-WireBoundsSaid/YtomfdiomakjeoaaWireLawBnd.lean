/- lexiconlaw17.WireBounds answers true; nothing that was there is changed. -/
import Derived.Test.YtomfdiomakjeoaaWireBndPlain
import Derived.Test.YtomfdiomakjeoaaWireLawPk
import Derived.Test.YtomfdiomakjeoaaWireGoes
import Derived.Test.YtomfdiomakjeoaaWireWorks
import Derived.Laws.OwnMore
import Derived.StillTailTactics
import Derived.Test.YtomfdiomakjeoaaStillFast
namespace Go.Proofs.Ytomfdiomakjeoaa
open Go.RowKit

/-- 'make([]T, n)': n zeros in a block of their own. -/
theorem step_makeZ {P : Program} {ops : Array Oper} {rest : List Oper} {o : Oper} {act : Act} {Q : Exit → Act → World → Prop} {w : World} (hgd : o.guard = none) (l c : Operand) {t : TypeId} (ho : o.op = .makeSlice t l c)
    {e : TypeId} {bytes : Nat} {z : Value} (E : Elt P t e 1 bytes z) (hz : z.cells = #[z]) (n : Nat) (hl : act.eval l = .int .i64 (n : Int)) (hc : act.eval c = .int .i64 (n : Int)) (hb : bytes * n ≤ 281474976710656) (hm : n ≤ maxLen)
    (h : ∀ w', Rd w' (some ⟨w.heap.size, 0, none⟩) (List.replicate n z) → Below w.heap.size w w' → w.heap.size < w'.heap.size → wpList P ops Q rest (act.put o.dst (.slice (some ⟨w.heap.size, 0, none⟩) n n)) w') : wpList P ops Q (o :: rest) act w := by
  obtain ⟨i, hi, hz0, hs, hby⟩ := info_parts E.info
  refine wpList_plain hgd fun K hK => ?_
  obtain ⟨w', hrun, r1, r2⟩ := run_make_full (P := P) w w.heap.size t e i z 1 E.und hi hz0 hs .i64 .i64 n (by rw [hby]; exact hb) hm (Nat.le_refl _)
  rw [hz, Nat.mul_one, toList_madeCells_one] at r1
  obtain ⟨a, cap, hv, hcc, hr⟩ := Rd.of_own r1
  obtain ⟨rfl, _, rfl⟩ := by simpa using hv
  unfold Oper.wp execOp
  simp only [ho, hl, hc, Sem.run_bind, Sem.run_pure, Result.andThen_ok, hrun]
  refine hK _ _ (h w' hr ⟨r2.os, r2.tape, r2.output, r2.size, fun k hk => r2.block k hk (by simp)⟩ ?_)
  rcases r1.2 with ⟨h1, _⟩ | ⟨g, cap, cur, h1, _, hg, _⟩
  · cases h1
  · simp only [Value.slice.injEq, Option.some.injEq, Addr.mk.injEq, and_true] at h1
    rw [h1.1]
    exact (Array.getElem?_eq_some_iff.1 hg).1
theorem str_append (l k : List UInt8) : str l ++ str k = str (l ++ k) := by
  apply ByteArray.ext
  simp [str, ByteArray.data_append]
theorem rdF_one (w : World) (m t : Int) (x : Nat) (bs : List UInt8) (s : ByteArray) (ty : TypeId) (hs : str bs = s) (b : Nat) (hb : w.heap.size = b) : RdF (w.alloc (.cells #[.int .i64 m, .int .i64 t, .int .u64 (x : Int), .string s] ty)) (some ⟨b, 0, none⟩) [⟨m, t, x, bs⟩] := by
  subst hs hb
  exact rd_lit _ _ _ _ _ rfl
theorem rdF_two (w : World) (m t m2 t2 : Int) (x x2 : Nat) (bs bs2 : List UInt8) (s s2 : ByteArray) (ty : TypeId) (hs : str bs = s) (hs2 : str bs2 = s2) :
    RdF (w.alloc (.cells #[.int .i64 m, .int .i64 t, .int .u64 (x : Int), .string s, .int .i64 m2, .int .i64 t2, .int .u64 (x2 : Int), .string s2] ty)) (some ⟨w.heap.size, 0, none⟩) [⟨m, t, x, bs⟩, ⟨m2, t2, x2, bs2⟩] := by
  subst hs hs2
  exact rd_lit _ _ _ _ _ rfl
theorem eql_fd (f : Fd) (s : ByteArray) (w : World) : (binOp .eql 40 (.agg #[.int .i64 f.num, .int .i64 f.typ, .int .u64 (f.word : Int), .string s]) (.agg #[.int .i64 f.num, .int .i64 f.typ, .int .u64 (f.word : Int), .string s])).run Try.prog w = .ok (.bool true) w := by
  have hS : Try.prog.underlying 40 = some (.struct (Try.prog.fieldsOf 40)) := by kernel_rfl
  have hp : Try.prog.stoodInHeld 40 = false := by kernel_rfl
  rw [run_eql_struct, show (10000 : Nat) = 9999 + 1 from rfl, run_equalIn_agg w 9999 _ _ _ hS hp]
  have u3 := Try.underlying3
  have u38 := Try.underlying38
  have u22 := Try.underlying22
  have u9 := Try.underlying9
  simp only [Program.fieldsOf, Try.underlying40]
  go_simp
theorem ok_text (bs : List UInt8) : Fd.Ok ⟨((1 : Nat) : Int), 2, 0, bs⟩ :=
  ⟨by show (-9223372036854775808 : Int) ≤ 1; decide, by show (1 : Int) < 9223372036854775808; decide, by show (-9223372036854775808 : Int) ≤ 2; decide, by show (2 : Int) < 9223372036854775808; decide, by show 0 < 18446744073709551616; decide⟩
theorem rdB_grown_ne {w w' : World} {a : Option Addr} {l : List UInt8} {row : Option Nat} (h : RdB w a l) (hg : w.grownBy w' row) (hne : ∀ b off, a = some ⟨b, off, none⟩ → some b ≠ row) : RdB w' a l := by
  rcases h with h | ⟨b, off, ha, hlt, hc⟩
  · exact .inl h
  · exact .inr ⟨b, off, ha, Nat.lt_of_lt_of_le hlt hg.size, fun k hk => (World.cell?_of_block (a := ⟨b, off + k, none⟩) (hg.block b hlt (hne b off ha))).trans (hc k hk)⟩
set_option maxRecDepth 100000 in
set_option maxHeartbeats 4000000 in
theorem bounds_any (w : World) : Calls Try.prog 9 #[] w fun e w' => e = .returned (.bool true) ∧ Below w.heap.size w w' := by
  obtain ⟨Z, hZ⟩ : ∃ Z, List.replicate 1048577 (0 : UInt8) = Z := ⟨_, rfl⟩
  have hZl : Hid (1048577 = Z.length) := by show _ = _; rw [← hZ, List.length_replicate]
  have hZb : Hid (List.replicate 1048577 (Value.int .u8 0) = Z.map bv) := by show _ = _; rw [← hZ, List.map_replicate]; rfl
  obtain ⟨T0, hT0⟩ : ∃ T, Z.take 1048572 = T := ⟨_, rfl⟩
  have hT0l : T0.length = 1048572 := by rw [← hT0, List.length_take, ← hZl.out]; rfl
  have HT0 := Lib.hid hT0
  obtain ⟨s0, hs0⟩ : ∃ s, str T0 = s := ⟨_, rfl⟩
  have HS0 := Lib.hid hs0
  obtain ⟨F0, hF0⟩ : ∃ F : Fd, (⟨((1 : Nat) : Int), 2, 0, T0⟩ : Fd) = F := ⟨_, rfl⟩
  have HOK0 : Hid (∀ f ∈ [F0], f.Ok) := fun f hf => by rw [List.mem_singleton.1 hf, ← hF0]; exact ok_text T0
  have hM0 : mayB F0 = true := by rw [← hF0]; exact may_text T0
  have hL0 : (told F0).length = 1048576 := by rw [← hF0, told_long T0 (by omega) (by omega), hT0l]
  have HBY0 := Lib.hid (bytes_one hM0 (by omega))
  have HFI0 := Lib.hid (fields_one (HOK0.out F0 (by simp)) hM0 (by omega))
  have HTL0 : Hid ((tolds [F0]).length + 100 ≤ 140737488355328) := by show _ ≤ _; unfold tolds; simp only [List.flatMap_cons, List.flatMap_nil, List.append_nil]; omega
  obtain ⟨B0, hB0⟩ : ∃ B, told F0 = B := ⟨_, rfl⟩
  rw [hB0] at HBY0 HFI0 hL0
  have HB0L := Lib.hid hL0
  clear hB0 hL0 hs0 hT0
  obtain ⟨s1, hs1⟩ : ∃ s, str (T0 ++ [97]) = s := ⟨_, rfl⟩
  have hss : s0 ++ ⟨#[97]⟩ = s1 := by rw [← hs1, ← HS0.out]; exact str_append T0 [97]
  have HS1 := Lib.hid hs1
  have hs0z : s0.size = 1048572 := by rw [← HS0.out]; simpa [str, ByteArray.size] using hT0l
  obtain ⟨F1, hF1⟩ : ∃ F : Fd, (⟨((1 : Nat) : Int), 2, 0, T0 ++ [97]⟩ : Fd) = F := ⟨_, rfl⟩
  have hM1 : mayB F1 = true := by rw [← hF1]; exact may_text _
  have hL1 : (told F1).length = 1048577 := by rw [← hF1, told_long _ (by rw [List.length_append]; simp; omega) (by rw [List.length_append]; simp; omega), List.length_append, hT0l]; rfl
  have HBY1 := Lib.hid (bytes_one_long hM1 (by omega))
  have HBY2 := Lib.hid (bytes_bad (f := F1) (g := ⟨0, 0, 0, []⟩) rfl)
  have hok1 : F1.Ok := by rw [← hF1]; exact ok_text _
  have hokz : Fd.Ok ⟨0, 0, 0, []⟩ := ⟨by decide, by decide, by decide, by decide, by decide⟩
  have HOK1 : Hid (∀ f ∈ [F1], f.Ok) := fun f hf => by rw [List.mem_singleton.1 hf]; exact hok1
  have HOK2 : Hid (∀ f ∈ [F1, (⟨0, 0, 0, []⟩ : Fd)], f.Ok) := fun f hf => by rcases List.mem_cons.1 hf with rfl | hf; exact hok1; rw [List.mem_singleton.1 hf]; exact hokz
  have hlz : (told ⟨0, 0, 0, []⟩).length = 2 := by unfold told; dsimp only; rw [if_pos rfl, show (8 * (0 : Int).toNat + (0 : Int).toNat) = 0 from rfl, vput_lt (x := 0) (by decide)]; rfl
  have HTL1 : Hid ((tolds [F1]).length + 100 ≤ 140737488355328) := by show _ ≤ _; unfold tolds; simp only [List.flatMap_cons, List.flatMap_nil, List.append_nil]; omega
  have HTL2 : Hid ((tolds [F1, (⟨0, 0, 0, []⟩ : Fd)]).length + 100 ≤ 140737488355328) := by show _ ≤ _; unfold tolds; simp only [List.flatMap_cons, List.flatMap_nil, List.append_nil, List.length_append]; omega
  have HF0 := Lib.hid hF0
  have HF1 := Lib.hid hF1
  have HT0L := Lib.hid hT0l
  clear hs1 hM0 hM1 hL1 hok1 hokz hlz hF0 hF1 hT0l
  refine calls_of_wp_marks Try.func9 rfl ?_
  simp only [Try.ntmps9, List.size_toArray, List.length_nil, Nat.reduceSub, Array.replicate_succ, Array.replicate_zero, List.push_toArray, List.append_toArray, List.nil_append, List.cons_append]
  go_upto_region 1 with fail
  have hr0 := Box.new w 4 (.bool false)
  have hb0 := below_alloc (w := w) (.cells #[.bool false] 4)
  generalize w.alloc (.cells #[.bool false] 4) = W0 at *
  have HR0 := Lib.hid hr0
  have HB0 := Lib.hid hb0
  clear hr0 hb0
  go_wp2_with (first
    | (at_make; refine step_makeZ rfl _ _ rfl eltB rfl 1048577 rfl rfl (by decide) (by unfold maxLen; decide) ?_; intro w1 h1 h2 h3; rw [hZb.out] at h1; have HZ1 := Lib.hid (show RdB w1 (some ⟨W0.heap.size, 0, none⟩) Z from h1); have HB1 := Lib.hid (below_trans HB0.out h2); have HR1 := Lib.hid (HR0.out.below h2); clear h1 h2)
    | (refine step_str rfl 23 9 5 (.tmp 34) rfl _ 1048572 _ T0 rfl Try.underlying23 Try.underlying5 Try.underlying9 HT0L.out.symm (by have := HZ1.out.take 1048572; rwa [HT0.out] at this) s0 HS0.out ?_))
  refine (bytes_any _ [F0] 1 1 _ (show (1 : Nat) = _ from rfl) (by decide) HOK0 HTL0 (by decide) (by rw [← HF0.out]; exact rdF_one _ ((1 : Nat) : Int) 2 0 T0 s0 _ HS0.out _ (by simp))).mono ?_
  rintro e w2 ⟨v2, rfl, ho2, hb2⟩
  rw [HBY0.out] at ho2 ⊢
  have hf1 : RowAt (w1.alloc (.cells #[.int .i64 1, .int .i64 2, .int .u64 0, .string s0] 40)) w1.heap.size 40 #[.int .i64 1, .int .i64 2, .int .u64 0, .string s0] := RowAt.new _ _ _
  have hf2 := (hf1.below (below_alloc (.cells #[.int .i64 1, .int .i64 2, .int .u64 0, .string s0] 40))).below hb2
  obtain ⟨a2, c2, rfl, hc2, hcm2, hr2⟩ := own_rdm ho2
  have hg2 : ∀ b off, a2 = some ⟨b, off, none⟩ → w1.heap.size < b := fun b off h => by have := (World.ownsRow.lt ho2 b (by rw [h]; rfl)).1; simp at this; omega
  rw [HB0L.out] at hc2 ⊢
  have hb12 := below_trans (below_trans (below_alloc (w := w1) (.cells #[.int .i64 1, .int .i64 2, .int .u64 0, .string s0] 40)) (below_alloc (.cells #[.int .i64 1, .int .i64 2, .int .u64 0, .string s0] 40))) hb2
  have HX2 := Lib.hid hr2
  have HG2 := Lib.hid hg2
  have HF2 := Lib.hid hf2
  obtain ⟨fb, hfb⟩ : ∃ fb, w1.heap.size = fb := ⟨_, rfl⟩
  rw [hfb] at HF2 HG2 h3 ⊢
  clear ho2 hr2 hg2 hf1 hf2 hb2
  have HB2 := Lib.hid (below_trans HB1.out hb12)
  have HR2 := Lib.hid (HR1.out.below hb12)
  have HZ2 := Lib.hid (HZ1.out.mono hb12)
  clear HB1 HR1 HZ1 hb12
  clear hfb
  have hrlt : w.heap.size < fb := Nat.lt_of_lt_of_le HR0.out.lt (Nat.le_of_lt h3)
  have hflt2 := HF2.out.lt
  go_wp2_with fail
  refine (fields_any a2 B0 1048576 c2 w2 HB0L.out.symm hc2 hcm2 HX2.out).mono ?_
  rintro e w3 ⟨v3, rfl, ho3, hb3⟩
  rw [HFI0.out] at ho3 ⊢
  obtain ⟨a3, c3, rfl, _, _⟩ := ho3.rd
  rw [show [F0].length = 1 from rfl]
  clear ho3
  have HB3 := Lib.hid (below_trans HB2.out hb3)
  have HR3 := Lib.hid (HR2.out.below hb3)
  have HZ3 := Lib.hid (HZ2.out.mono hb3)
  have HX3 := Lib.hid (HX2.out.mono hb3)
  have HF3 := Lib.hid (HF2.out.below hb3)
  clear HB2 HR2 HZ2 HX2 HF2 hb3
  obtain ⟨_, _, _, hf3⟩ := HF3.out.cells4
  go_wp2_with (first
    | (refine step_storeField rfl 9 (.tmp 51) (.tmp 50) rfl rfl fb 3 (.string s1) rfl rfl 40 #[.int .i64 1, .int .i64 2, .int .u64 0, .string s0] #[.int .i64 1, .int .i64 2, .int .u64 0, .string s1] HF3.out (by kernel_rfl) (by show 3 < 4; decide) rfl (by simp) ?_; intro w4 h1 h2; have HF4 := Lib.hid h1; have HGR := Lib.hid h2; clear h1 h2)
    | (refine step_loadRow rfl 40 (.tmp 2) rfl fb rfl HF4.out aggFd ?_))
  have HR4 : Hid (Box w4 w.heap.size 4 (.bool false)) := (HGR.out.block w.heap.size HR3.out.lt (fun e => by have := Option.some.inj e; omega)).trans HR3.out
  have HZ4 := Lib.hid (rdB_grown_ne HZ3.out HGR.out (fun b off h e => by simp at h; have := Option.some.inj e; omega))
  have HX4 := Lib.hid (rdB_grown_ne HX3.out HGR.out (fun b off h e => by have := HG2.out b off h; have := Option.some.inj e; omega))
  have HB4 := Lib.hid (HB3.out.grown HGR.out HB3.out.size (fun g hg => by have := Option.some.inj hg; omega))
  clear HR3 HZ3 HX3 HB3 HF3 HGR hf3
  refine (bytes_any _ [F1] 1 1 _ (show (1 : Nat) = _ from rfl) (by decide) HOK1 HTL1 (by decide) (by rw [← HF1.out]; exact rdF_one _ ((1 : Nat) : Int) 2 0 _ s1 _ HS1.out _ rfl)).mono ?_
  rintro e w5 ⟨v5, rfl, ho5, hb5⟩
  rw [HBY1.out] at ho5 ⊢
  obtain ⟨a5, c5, rfl, _, _⟩ := ho5.rd
  rw [show ([] : List UInt8).length = 0 from rfl]
  have hb45 := below_trans (below_alloc (w := w4) (.cells #[.int .i64 1, .int .i64 2, .int .u64 0, .string s1] 40)) hb5
  clear ho5 hb5
  have HB5 := Lib.hid (below_trans HB4.out hb45)
  have HR5 := Lib.hid (HR4.out.below hb45)
  have HZ5 := Lib.hid (HZ4.out.mono hb45)
  have HX5 := Lib.hid (HX4.out.mono hb45)
  have HF5 := Lib.hid (HF4.out.below hb45)
  clear HB4 HR4 HZ4 HX4 HF4 hb45
  go_wp2_with (first
    | (at_builtin; refine step_appendB rfl (.tmp 59) (.tmp 60) rfl eltB w5.heap.size _ [] rfl _ _ _ B0 rfl (OwnB.empty w5 _ _ (Nat.le_refl _)) HB0L.out.symm (HX5.out.mono (below_alloc _)) (by rw [HB0L.out]; decide) (by simp) ?_; intro v1 w9 h1 h2; have H1 := Lib.hid h1; have H2 := Lib.hid ((below_alloc _).trans h2); clear h1 h2)
    | (at_builtin; refine step_appendB rfl (.tmp 61) (.tmp 62) rfl eltB w5.heap.size _ ([] ++ B0) rfl _ _ _ [0] rfl (H1.out.kept (below_alloc _) (Nat.le_refl _)) rfl (rdB_lit _ _ _ _ _ rfl) (by rw [List.nil_append, HB0L.out]; decide) (by have := H2.out.size; simp; omega) ?_; intro v6 w6 h1 h2; rw [List.nil_append] at h1; obtain ⟨a6, c6, rfl, hc6, hcm6, hr6⟩ := own_rdm h1; have hl6 : (B0 ++ [(0 : UInt8)]).length = 1048577 := (by rw [List.length_append, HB0L.out]; rfl); rw [hl6] at hc6 ⊢; have HL6 := Lib.hid hl6; have HV6 := Lib.hid hr6; have HW6 := Lib.hid ((H2.out.trans ((Below.refl _ w9).alloc H2.out.size _)).trans h2); clear h1 h2 hr6 hl6 H1 H2))
  refine (fields_any a6 (B0 ++ [0]) 1048577 c6 w6 HL6.out.symm hc6 hcm6 HV6.out).mono ?_
  rintro e w7 ⟨v7, rfl, ho7, hb7⟩
  rw [fields_long (l := B0 ++ [0]) (by rw [HL6.out]; decide)] at ho7 ⊢
  obtain ⟨a7, c7, rfl, _, _⟩ := ho7.rd
  rw [show ([] : List Fd).length = 0 from rfl]
  have hb57 := below_trans HW6.out hb7
  clear ho7 hb7 HV6 HW6 HL6
  have HB7 := Lib.hid (below_trans HB5.out hb57)
  have HR7 := Lib.hid (HR5.out.below hb57)
  have HZ7 := Lib.hid (HZ5.out.mono hb57)
  have HX7 := Lib.hid (HX5.out.mono hb57)
  have HF7 := Lib.hid (HF5.out.below hb57)
  clear HB5 HR5 HZ5 HX5 HF5 hb57
  go_wp2_with (refine step_loadRow rfl 40 (.tmp 2) rfl fb rfl HF7.out aggFd ?_)
  refine (bytes_any _ [F1, ⟨0, 0, 0, []⟩] 2 2 _ (show (2 : Nat) = _ from rfl) (by decide) HOK2 HTL2 (by decide) (by rw [← HF1.out]; exact rdF_two _ ((1 : Nat) : Int) 2 0 0 0 0 _ [] s1 _ _ HS1.out rfl)).mono ?_
  rintro e w8 ⟨v8, rfl, ho8, hb8⟩
  rw [HBY2.out] at ho8 ⊢
  have hb78 := below_trans (below_alloc (w := w7) _) hb8
  clear ho8 hb8
  have HB8 := Lib.hid (below_trans HB7.out hb78)
  have HR8 := Lib.hid (HR7.out.below hb78)
  have HZ8 := Lib.hid (HZ7.out.mono hb78)
  have HX8 := Lib.hid (HX7.out.mono hb78)
  clear HB7 HR7 HZ7 HX7 hb78
  have hfn : ∀ (w : World) (f : Fn) (x y : Array Value), Hid ((binOp .eql 50 (.func f x y) .nilFunc).run Try.prog w = .ok (.bool false) w) := fun _ _ _ _ => rfl
  go_wp2_with (first
    | (at_builtin; refine step_appendB rfl (.tmp 74) (.tmp 75) rfl eltB w8.heap.size _ [] rfl _ _ _ B0 rfl (OwnB.empty w8 _ _ (Nat.le_refl _)) HB0L.out.symm (HX8.out.mono (below_alloc _)) (by rw [HB0L.out]; decide) (by simp) ?_; intro v1 w9 h1 h2; have H1 := Lib.hid h1; have H2 := Lib.hid ((below_alloc _).trans h2); clear h1 h2)
    | (at_builtin; refine step_appendB rfl (.tmp 76) (.tmp 77) rfl eltB w8.heap.size _ ([] ++ B0) rfl _ _ _ [0] rfl (H1.out.kept (below_alloc _) (Nat.le_refl _)) rfl (rdB_lit _ _ _ _ _ rfl) (by rw [List.nil_append, HB0L.out]; decide) (by have := H2.out.size; simp; omega) ?_; intro v10 w10 h1 h2; rw [List.nil_append] at h1; obtain ⟨a10, c10, rfl, hc10, hcm10, hr10⟩ := own_rdm h1; have hl10 : (B0 ++ [(0 : UInt8)]).length = 1048577 := (by rw [List.length_append, HB0L.out]; rfl); rw [hl10] at hc10 ⊢; have HL10 := Lib.hid hl10; have HV10 := Lib.hid hr10; have HW10 := Lib.hid ((H2.out.trans ((Below.refl _ w9).alloc H2.out.size _)).trans h2); clear h1 h2 hr10 hl10 H1 H2))
  refine (all_any a10 (B0 ++ [0]) 1048577 c10 w10 HL10.out.symm HV10.out).mono ?_
  rintro e w11 ⟨B, v11, rfl, hB, hbox, ho11, hb11⟩
  rw [if_pos (by rw [HL10.out]; decide)] at ho11
  obtain ⟨aa, cc, rfl, _, hccm, hraa⟩ := own_rdm ho11
  have hb811 := below_trans HW10.out hb11
  have HBX := Lib.hid hbox
  have HRA := Lib.hid hraa
  have hBl : w.heap.size < B := by have h1 := HB8.out.size; have h2 := HW10.out.size; have h3 := HR8.out.lt; omega
  have h0 := (hfn w11 (.func 45) #[] #[.pointer (some ⟨B, 0, none⟩)]).out
  clear ho11 hb11 hbox hraa HV10 HW10 HL10 hB hfn
  have HB11 := Lib.hid (below_trans HB8.out hb811)
  have HR11 := Lib.hid (HR8.out.below hb811)
  have HZ11 := Lib.hid (HZ8.out.mono hb811)
  clear HB8 HR8 HZ8 hb811
  go_wp2_with fail
  clear h0
  have hst := wall1_stops w11 B aa 0 cc [] (show (0 : Nat) = _ from rfl) (Nat.zero_le _) hccm (by decide) HBX.out.cell HRA.out (fun _ => False) (fun h => h) (fun b off ha h1 => by simp at h1) (fun b hb => hb.elim)
  rw [show (somes []).length = 0 from rfl] at hst
  refine wp_range (gf := 45) (lb := #[.pointer (some ⟨B, 0, none⟩)]) rfl (enters_of Try.func45 (by kernel_rfl) rfl) (fun _ => False) (len := 0)
    hst (fun b hb => hb.elim) ?cps (fun j W => True) (fun _ _ _ => False)
    ?cG ?cGx ?c0 ?cround ?cdone ?cstop
  case cps => rintro j args W ⟨p, f, _, rfl⟩; rfl
  case cG => exact fun j W W' h hs => h
  case cGx => exact fun c j W W' h hs => h
  case c0 => exact trivial
  case cround => intro lp j args W hj; omega
  case cstop => exact fun D c j W hD hj => absurd hj (by omega)
  rintro D w12 hD hkw _ hdf
  have hb1112 : Below w11.heap.size w11 w12 := hkw.below (Nat.le_refl _) (fun k h => h.elim)
  have HD12 := Lib.hid hdf
  have HDl : Hid (w11.heap.size ≤ D) := hD
  have hDR : D ≠ w.heap.size := fun e => by have := HR11.out.lt; omega
  have HDR := Lib.hid hDR
  have HB11s : Hid (w.heap.size ≤ w11.heap.size) := HB11.out.size
  clear hdf hkw hD hDR hst hccm HBX HRA hBl hrlt hflt2 HG2 hc2 hcm2 hc6 hcm6
  have HB12 := Lib.hid (below_trans HB11.out hb1112)
  have HR12 := Lib.hid (HR11.out.below hb1112)
  have HZ12 := Lib.hid (HZ11.out.mono hb1112)
  clear HB11 HR11 HZ11 hb1112
  have hz14 := HZ12.out.take 1048576
  obtain ⟨Z1, hZ1⟩ : ∃ Z1, Z.take 1048576 = Z1 := ⟨_, rfl⟩
  have hZ1e : Z1 = List.replicate 1048576 0 := by rw [← hZ1, ← hZ, take_rep _ _ _ (by decide)]
  have hZ1l : Hid (1048576 = Z1.length) := by show _ = _; rw [hZ1e, List.length_replicate]
  have hU1 := unpack_zeros 1048576 (by decide)
  rw [← hZ1e] at hU1
  obtain ⟨U1, hU1e⟩ : ∃ U, List.replicate 1048576 (0 : Nat) = U := ⟨_, rfl⟩
  have hU1l : U1.length = 1048576 := by rw [← hU1e, List.length_replicate]
  rw [hU1e] at hU1
  have HU1 := Lib.hid hU1
  have HU1L := Lib.hid hU1l
  rw [hZ1] at hz14
  have HZ14 := Lib.hid hz14
  have HUL : Hid (∀ t, unpackOf t Z = ([], 3)) := fun t => unpack_long t (by rw [← hZl.out]; decide)
  clear hz14 hZ1 hZ1e hU1 hU1e hU1l hZ
  go_wp2_with fail
  refine (unpack_any 0 _ Z1 1048576 1048577 w12 hZ1l (by decide) (by decide) HZ14.out).mono ?_
  rintro e w13 ⟨v13, rfl, ho13, hb13⟩
  rw [HU1.out] at ho13 ⊢
  obtain ⟨a13, c13, rfl, _, _⟩ := ho13.rd
  rw [HU1L.out]
  clear ho13
  have HD13 := Lib.hid (((hb13).block D (Array.getElem?_eq_some_iff.1 HD12.out).1).trans HD12.out)
  clear HD12
  have HB13 := Lib.hid (below_trans HB12.out hb13)
  have HR13 := Lib.hid (HR12.out.below hb13)
  have HZ13 := Lib.hid (HZ12.out.mono hb13)
  clear HB12 HR12 HZ12 hb13
  go_wp2_with fail
  refine (unpack_any 0 _ Z 1048577 1048577 w13 hZl (by decide) (by decide) HZ13.out).mono ?_
  rintro e w14 ⟨v14, rfl, ho14, hb14⟩
  rw [HUL.out] at ho14 ⊢
  clear ho14
  have HD14 := Lib.hid (((hb14).block D (Array.getElem?_eq_some_iff.1 HD13.out).1).trans HD13.out)
  clear HD13
  have HB14 := Lib.hid (below_trans HB13.out hb14)
  have HR14 := Lib.hid (HR13.out.below hb14)
  have HZ14 := Lib.hid (HZ13.out.mono hb14)
  clear HB13 HR13 HZ13 hb14
  go_wp2_with fail
  refine (unpack_any 2 _ Z 1048577 1048577 w14 hZl (by decide) (by decide) HZ14.out).mono ?_
  rintro e w15 ⟨v15, rfl, ho15, hb15⟩
  rw [HUL.out] at ho15 ⊢
  clear ho15
  have HD15 := Lib.hid (((hb15).block D (Array.getElem?_eq_some_iff.1 HD14.out).1).trans HD14.out)
  clear HD14
  have HB15 := Lib.hid (below_trans HB14.out hb15)
  have HR15 := Lib.hid (HR14.out.below hb15)
  clear HB14 HR14 hb15
  clear HZ14
  obtain ⟨Y1, hY1⟩ : ∃ Y, List.replicate 131073 (0 : Nat) = Y := ⟨_, rfl⟩
  have hY1l : Hid (131073 = Y1.length) := by show _ = _; rw [← hY1, List.length_replicate]
  have hY1b : Hid (List.replicate 131073 (Value.int .u64 0) = Y1.map uv) := by show _ = _; rw [← hY1, List.map_replicate]; rfl
  have hY1w : Hid (∀ x ∈ Y1, x < 18446744073709551616) := fun x hx => by rw [← hY1] at hx; rw [List.eq_of_mem_replicate hx]; decide
  have hP1 := pack_zeros_long 131073 (by decide)
  rw [hY1] at hP1
  have HP1 := Lib.hid hP1
  obtain ⟨Y2, hY2⟩ : ∃ Y, List.replicate 131072 (0 : Nat) = Y := ⟨_, rfl⟩
  have hY2l : Hid (131072 = Y2.length) := by show _ = _; rw [← hY2, List.length_replicate]
  have hY2b : Hid (List.replicate 131072 (Value.int .u64 0) = Y2.map uv) := by show _ = _; rw [← hY2, List.map_replicate]; rfl
  have hY2w : Hid (∀ x ∈ Y2, x < 18446744073709551616) := fun x hx => by rw [← hY2] at hx; rw [List.eq_of_mem_replicate hx]; decide
  have hP2 := pack_zeros 131072 (by decide)
  have hP2l := words_zeros 131072
  rw [hY2] at hP2 hP2l
  obtain ⟨Q2, hQ2⟩ : ∃ Q, wordsB 1 Y2 = Q := ⟨_, rfl⟩
  rw [hQ2] at hP2 hP2l
  have HP2 := Lib.hid hP2
  have HP2L := Lib.hid hP2l
  clear hY1 hP1 hY2 hP2 hP2l hQ2
  go_wp2_with (at_make; refine step_makeZ rfl _ _ rfl eltU rfl 131073 rfl rfl (by decide) (by unfold maxLen; decide) ?_; intro w16 h1 h2 h4; rw [hY1b.out] at h1; have HY := Lib.hid (show RdU w16 (some ⟨w15.heap.size, 0, none⟩) Y1 from h1); have HM := Lib.hid h2; clear h1 h2)
  refine (pack_any 1 _ Y1 131073 131073 w16 hY1l (by decide) (by decide) hY1w HY.out).mono ?_
  rintro e w17 ⟨v17, rfl, ho17, hb17⟩
  rw [HP1.out] at ho17 ⊢
  have hb1517 := below_trans HM.out hb17
  clear ho17 hb17 HY HM
  have HD17 := Lib.hid (((hb1517).block D (Array.getElem?_eq_some_iff.1 HD15.out).1).trans HD15.out)
  clear HD15
  have HB17 := Lib.hid (below_trans HB15.out hb1517)
  have HR17 := Lib.hid (HR15.out.below hb1517)
  clear HB15 HR15 hb1517
  go_wp2_with (at_make; refine step_makeZ rfl _ _ rfl eltU rfl 131072 rfl rfl (by decide) (by unfold maxLen; decide) ?_; intro w18 h1 h2 h5; rw [hY2b.out] at h1; have HY := Lib.hid (show RdU w18 (some ⟨w17.heap.size, 0, none⟩) Y2 from h1); have HM := Lib.hid h2; clear h1 h2)
  refine (pack_any 1 _ Y2 131072 131072 w18 hY2l (by decide) (by decide) hY2w HY.out).mono ?_
  rintro e w19 ⟨v19, rfl, ho19, hb19⟩
  rw [HP2.out] at ho19 ⊢
  obtain ⟨a19, c19, rfl, _, _⟩ := own_rdm ho19
  rw [HP2L.out]
  have hb1719 := below_trans HM.out hb19
  clear ho19 hb19 HY HM
  have HD19 := Lib.hid (((hb1719).block D (Array.getElem?_eq_some_iff.1 HD17.out).1).trans HD17.out)
  clear HD17
  have HB19 := Lib.hid (below_trans HB17.out hb1719)
  have HR19 := Lib.hid (HR17.out.below hb1719)
  clear HB17 HR17 hb1719
  have HTP := Lib.hid (bytes_one topF_may (by rw [topF_len]; decide))
  have HTF := Lib.hid (fields_one topF_ok topF_may (by rw [topF_len]; decide))
  have HTL := Lib.hid topF_len
  have HTOK : Hid (∀ f ∈ [topF], f.Ok) := fun f hf => by rw [List.mem_singleton.1 hf]; exact topF_ok
  have HTT : Hid ((tolds [topF]).length + 100 ≤ 140737488355328) := by show _ ≤ _; unfold tolds; simp only [List.flatMap_cons, List.flatMap_nil, List.append_nil, topF_len]; decide
  obtain ⟨TB, hTB⟩ : ∃ T, told topF = T := ⟨_, rfl⟩
  rw [hTB] at HTP HTF HTL
  clear hTB
  go_wp2_with fail
  refine (bytes_any _ [topF] 1 1 _ (show (1 : Nat) = _ from rfl) (by decide) HTOK HTT (by decide) (by exact rdF_one _ 536870911 0 18446744073709551615 [] ⟨#[]⟩ _ rfl _ (by simp))).mono ?_
  rintro e w20 ⟨v20, rfl, ho20, hb20⟩
  rw [HTP.out] at ho20 ⊢
  obtain ⟨a20, c20, rfl, hc20, hcm20, hr20⟩ := own_rdm ho20
  rw [HTL.out] at hc20 ⊢
  have ht19 : RowAt (w19.alloc (.cells #[.int .i64 536870911, .int .i64 0, .int .u64 18446744073709551615, .string ⟨#[]⟩] 40)) w19.heap.size 40 #[.int .i64 536870911, .int .i64 0, .int .u64 18446744073709551615, .string ⟨#[]⟩] := RowAt.new _ _ _
  have ht20 := (ht19.below (below_alloc (.cells #[.int .i64 536870911, .int .i64 0, .int .u64 18446744073709551615, .string ⟨#[]⟩] 40))).below hb20
  have hb1920 := below_trans (below_trans (below_alloc (w := w19) (.cells #[.int .i64 536870911, .int .i64 0, .int .u64 18446744073709551615, .string ⟨#[]⟩] 40)) (below_alloc (.cells #[.int .i64 536870911, .int .i64 0, .int .u64 18446744073709551615, .string ⟨#[]⟩] 40))) hb20
  have HT20 := Lib.hid ht20
  have HX20 := Lib.hid hr20
  obtain ⟨tb, htb⟩ : ∃ tb, w19.heap.size = tb := ⟨_, rfl⟩
  rw [htb] at HT20 ⊢
  clear ho20 hr20 ht19 ht20 hb20
  have HD20 := Lib.hid (((hb1920).block D (Array.getElem?_eq_some_iff.1 HD19.out).1).trans HD19.out)
  clear HD19
  have HB20 := Lib.hid (below_trans HB19.out hb1920)
  have HR20 := Lib.hid (HR19.out.below hb1920)
  clear HB19 HR19 hb1920
  clear htb
  go_wp2_with fail
  refine (fields_any a20 TB 15 c20 w20 HTL.out.symm hc20 hcm20 HX20.out).mono ?_
  rintro e w21 ⟨v21, rfl, ho21, hb21⟩
  rw [HTF.out] at ho21 ⊢
  obtain ⟨a21, c21, rfl, hc21, hr21⟩ := ho21.rd
  rw [show [topF].length = 1 from rfl] at hc21 ⊢
  have HV21 := Lib.hid hr21
  clear ho21 hr21 HX20
  have HD21 := Lib.hid (((hb21).block D (Array.getElem?_eq_some_iff.1 HD20.out).1).trans HD20.out)
  clear HD20
  have HB21 := Lib.hid (below_trans HB20.out hb21)
  have HR21 := Lib.hid (HR20.out.below hb21)
  have HT21 := Lib.hid (HT20.out.below hb21)
  clear HB20 HR20 HT20 hb21
  go_wp2_with fail
  refine (takevarint_any _ [128, 128, 128, 128, 128, 128, 128, 128, 128, 2] 10 10 _ (show (10 : Nat) = _ from rfl) (by decide) (by decide) (rdB_lit _ _ _ _ _ rfl)).mono ?_
  rw [take_over.1, take_over.2.1, take_over.2.2]
  rintro e w22 ⟨rfl, hw22⟩
  have hb22 : Below w21.heap.size w21 w22 := by rw [← hw22]; exact below_alloc _
  have HV22 := Lib.hid (RdF.mono HV21.out hb22)
  clear hw22 HV21
  have HD22 := Lib.hid (((hb22).block D (Array.getElem?_eq_some_iff.1 HD21.out).1).trans HD21.out)
  clear HD21
  have HB22 := Lib.hid (below_trans HB21.out hb22)
  have HR22 := Lib.hid (HR21.out.below hb22)
  have HT22 := Lib.hid (HT21.out.below hb22)
  clear HB21 HR21 HT21 hb22
  obtain ⟨vb, vo, rfl, _, hx⟩ := fd_cells HV22.out (by decide)
  obtain ⟨x0, x1, x2, x3⟩ := hx 0 (by decide)
  obtain ⟨y0, y1, y2, y3⟩ := HT22.out.cells4
  have heq : ∀ w, (binOp .eql 40 (.agg #[.int .i64 536870911, .int .i64 0, .int .u64 18446744073709551615, .string ⟨#[]⟩]) (.agg #[.int .i64 536870911, .int .i64 0, .int .u64 18446744073709551615, .string ⟨#[]⟩])).run Try.prog w = .ok (.bool true) w := fun w => eql_fd topF ⟨#[]⟩ w
  simp only [Nat.zero_mul, Nat.add_zero, List.getElem_cons_zero] at x0 x1 x2 x3
  replace x0 : w22.cell? ⟨vb, vo, none⟩ = some (.int .i64 536870911) := x0
  replace x1 : w22.cell? ⟨vb, vo + 1, none⟩ = some (.int .i64 0) := x1
  replace x2 : w22.cell? ⟨vb, vo + 2, none⟩ = some (.int .u64 18446744073709551615) := x2
  replace x3 : w22.cell? ⟨vb, vo + 3, none⟩ = some (.string ⟨#[]⟩) := x3
  have HR := Lib.hid HR22.out
  have HDB : Hid (w.heap.size ≤ D) := Nat.le_trans HB11s.out HDl.out
  have HBW := Lib.hid HB22.out
  have HDW := Lib.hid HD22.out
  clear HR22 HB22 HD22 HT22 HV22 hx HTF HTP HTL HTOK HTT HUL HU1 HU1L hY1b hY1l hY1w hY2l hY2b hY2w HP1 HP2 HP2L hZl hZb hZ1l HT0 HS0 HOK0 HTL0 HFI0 HBY0 HB0L hss HS1 hs0z HBY1 HBY2 HOK1 HOK2 HTL1 HTL2 HF0 HF1 HT0L HR0 HB0 h4 h5
  go_wp2_with fail
  as_aux_lemma =>
    have hnum : ∀ (k : Int) (w : World), Calls Try.prog 16 #[.int .i64 k] w fun e w' => e = .returned (.int .i64 k) ∧ w' = w := fun k w => (num_any k w).mono fun e w' h => ⟨h.1, h.2.symm⟩
    have HN := Lib.hid hnum
    clear hnum
    simp only [List.append_eq, List.cons_append, List.nil_append]
    refine wp_region_still_tail 115 (by kernel_rfl) (fast_ok _ 115 (by kernel_rfl) (Nat.le_of_ble_eq_true (by kernel_rfl)) (by kernel_rfl)) ?_
    simp only [List.take_succ_cons, List.take_zero, List.drop_succ_cons, List.drop_zero]
    iterate 25 (first | still_step | still_call (HN.out _ _))
    as_aux_lemma =>
      iterate 25 (first | still_step | still_call (HN.out _ _))
      as_aux_lemma =>
        iterate 25 (first | still_step | still_call (HN.out _ _))
        as_aux_lemma =>
          iterate 25 (first | still_step | still_call (HN.out _ _))
          as_aux_lemma =>
            repeat (first | still_step | still_call (HN.out _ _))
            refine wpStill_nil ?_
            go_wp2_with (go_at_call 11; refine (works_any _).mono ?_; rintro e w23 ⟨rfl, hb23'⟩; have hb23 : Below w22.heap.size w22 w23 := ⟨hb23'.os, hb23'.tape, hb23'.output, hb23'.size, hb23'.block⟩; have hr23 := HR.out.below hb23; have hrc := hr23.cell; have hrf := hr23.frozen; have HR24 := Lib.hid (hr23.set (.bool true)); have HD23 := Lib.hid ((hb23.block D (Array.getElem?_eq_some_iff.1 HDW.out).1).trans HDW.out); have HB24 := Lib.hid ((HBW.out.trans (hb23.mono HBW.out.size)).setCell (p := ⟨w.heap.size, 0, none⟩) (Nat.le_refl _) (.bool true)); clear hr23 hb23 hb23')
            refine post_marks [D] rfl (by simp) (by intro x hx; simp at hx; rw [hx]; exact (heap_setCell_other _ _ D _ HDR.out).trans HD23.out) fun w' hk => ⟨.bool true, ?_, rfl, ?_⟩
            · exact results_box rfl rfl (HR24.out.keepA hk (fun hx => by simp at hx; exact HDR.out hx.symm)) rfl Try.underlying4
            · exact HB24.out.trans (hk.below HB24.out.size (fun x hx => by simp at hx; rw [hx]; exact HDB.out))
end Go.Proofs.Ytomfdiomakjeoaa
