/- lexiconlaw17.goes answers true where it is told the fields and places that the iterator hands over. -/
import Derived.Test.YtomfdiomakjeoaaWireRefSome
import Derived.Test.YtomfdiomakjeoaaWireShort
import Derived.Test.YtomfdiomakjeoaaRound
namespace Go.Proofs.Ytomfdiomakjeoaa
open Go.RowKit Go.BigFrame

attribute [local go_sem] Oper.semAt_some

theorem rdI_cells {w : World} {a : Option Addr} {l : List Nat} (h : RdI w a l) (hl : 0 < l.length) : ∃ b off, a = some ⟨b, off, none⟩ ∧ b < w.heap.size ∧ ∀ k (hk : k < l.length), w.cell? ⟨b, off + k, none⟩ = some (.int .i64 (l[k] : Int)) := by
  rcases h with h | ⟨b, off, ha, hlt, hc⟩
  · exact absurd (List.map_eq_nil_iff.1 h) (by intro e; simp [e] at hl)
  · exact ⟨b, off, ha, hlt, fun k hk => by have := hc k (by simpa using hk); simpa [iv] using this⟩
theorem RdI.mono {w w' : World} {a : Option Addr} {l : List Nat} (h : RdI w a l) (hb : Below w.heap.size w w') : RdI w' a l := Rd.mono h hb
set_option maxRecDepth 100000 in
set_option maxHeartbeats 4000000 in
theorem goes_any (B : Nat) (aa : Option Addr) (n cc : Nat) (l : List UInt8) (w : World) (hn : Hid (n = l.length)) (hcc : n ≤ cc) (hcm : cc ≤ 9223372036854775807) (hb : n ≤ 20000) (hbox : Hid (w.cell? ⟨B, 0, none⟩ = some (.slice aa n cc))) (hl : Hid (RdB w aa l))
    (a1 a2 : Option Addr) (m c1 c2 : Nat) (hm : Hid (m = (somes l).length)) (hf : Hid (RdF w a1 ((somes l).map (·.2)))) (hp : Hid (RdI w a2 ((somes l).map (·.1)))) (leave : Int) :
    Calls Try.prog 30 #[.func (.func 45) #[] #[.pointer (some ⟨B, 0, none⟩)], .slice a1 m c1, .slice a2 m c2, .int .i64 leave] w fun e w' => e = .returned (.bool true) ∧ Below w.heap.size w w' := by
  have hmn : m ≤ n := by have := rdSome_len (l.length + 1) 0 l; have h2 := hm.out; unfold somes at h2; rw [hn.out]; omega
  refine calls_of_wp_marks Try.func30 rfl ?_
  simp only [Try.ntmps30, List.size_toArray, List.length_cons, List.length_nil, Nat.reduceAdd, Nat.reduceSub, Array.replicate_succ, Array.replicate_zero, List.push_toArray, List.append_toArray, List.nil_append, List.cons_append]
  go_upto_region 1 with fail
  have hl0 := (((Box.new w 37 (.slice a1 m c1)).below (below_alloc (.cells #[.slice a2 m c2] 54))).below (below_alloc (.cells #[.int .i64 leave] 3))).below (below_alloc (.cells #[.bool false] 4))
  have hp0 := ((Box.new (w.alloc (.cells #[.slice a1 m c1] 37)) 54 (.slice a2 m c2)).below (below_alloc (.cells #[.int .i64 leave] 3))).below (below_alloc (.cells #[.bool false] 4))
  have hv0 := (Box.new ((w.alloc (.cells #[.slice a1 m c1] 37)).alloc (.cells #[.slice a2 m c2] 54)) 3 (.int .i64 leave)).below (below_alloc (.cells #[.bool false] 4))
  have hr0 := Box.new (((w.alloc (.cells #[.slice a1 m c1] 37)).alloc (.cells #[.slice a2 m c2] 54)).alloc (.cells #[.int .i64 leave] 3)) 4 (.bool false)
  have hb0 := below_trans (below_trans (below_trans (below_alloc (w := w) (.cells #[.slice a1 m c1] 37)) (below_alloc (.cells #[.slice a2 m c2] 54))) (below_alloc (.cells #[.int .i64 leave] 3))) (below_alloc (.cells #[.bool false] 4))
  simp only [World.size_alloc] at hp0 hv0 hr0
  generalize (((w.alloc (.cells #[.slice a1 m c1] 37)).alloc (.cells #[.slice a2 m c2] 54)).alloc (.cells #[.int .i64 leave] 3)).alloc (.cells #[.bool false] 4) = W0 at *
  have hfn : ∀ (w : World) (f : Fn) (x y : Array Value), Hid ((binOp .eql 50 (.func f x y) .nilFunc).run Try.prog w = .ok (.bool false) w) := fun _ _ _ _ => rfl
  have h0 := (hfn W0 (.func 45) #[] #[.pointer (some ⟨B, 0, none⟩)]).out
  have HL0 := Lib.hid hl0
  have HP0 := Lib.hid hp0
  have HV0 := Lib.hid hv0
  have HR0 := Lib.hid hr0
  have HB0 := Lib.hid hb0
  clear hl0 hp0 hv0 hr0 hb0 hfn
  go_wp2_with fail
  clear h0
  have hn0 := Box.new W0 3 (.int .i64 0)
  have hbN := below_alloc (w := W0) (.cells #[.int .i64 0] 3)
  obtain ⟨N, hN⟩ : ∃ N, N = W0.heap.size := ⟨_, rfl⟩
  obtain ⟨U, hU⟩ : ∃ U, U = W0.alloc (.cells #[.int .i64 0] 3) := ⟨_, rfl⟩
  rw [← hU] at hn0 hbN ⊢
  rw [← hN] at hn0 ⊢
  have HN0 := Lib.hid hn0
  have HNl : Hid (W0.heap.size = N) := hN.symm
  have HUV := Lib.hid hbN
  have HU := Lib.hid (below_trans HB0.out hbN)
  have hsz := HR0.out.lt
  have hszw := HB0.out.size
  have hBl : B < w.heap.size := World.block_lt_of_cell? w _ hbox.out
  clear hn0 hbN hN hU
  have hcX : ∀ k, (k = N ∨ k = w.heap.size + 1 + 1 + 1) → k < U.heap.size := fun b hb => by have h1 := HN0.out.lt; have h2 := HUV.out.size; rcases hb with rfl | rfl <;> omega
  have hst := wall1_stops U B aa n cc l hn hcc hcm (by omega) ((HU.out.cell (p := ⟨B, 0, none⟩) hBl).trans hbox.out) (hl.out.mono HU.out) (fun b => b = N ∨ b = w.heap.size + 1 + 1 + 1)
    (fun h => by have := HNl.out; have := HUV.out.size; have := HB0.out.size; omega) (fun b off ha h1 hbN => by have := HNl.out; obtain ⟨b', off', ha', hlt', _⟩ := hl.out.at h1; rw [ha] at ha'; simp only [Option.some.injEq, Addr.mk.injEq, and_true] at ha'; omega) hcX
  rw [← hm.out] at hst
  refine wp_range (gf := 45) (lb := #[.pointer (some ⟨B, 0, none⟩)]) rfl (enters_of Try.func45 (by kernel_rfl) rfl) (fun b => b = N ∨ b = w.heap.size + 1 + 1 + 1) (len := m)
    hst hcX ?cps (fun j W => Box W N 3 (.int .i64 (j : Int)) ∧ Box W (w.heap.size + 1 + 1 + 1) 4 (.bool false)) (fun c j W => c = .ret ∧ Box W (w.heap.size + 1 + 1 + 1) 4 (.bool true))
    ?cG ?cGx ?c0 ?cround ?cdone ?cstop
  case cps => rintro j args W ⟨p, f, _, rfl⟩; rfl
  case cG => exact fun j W W' h hs => ⟨h.1.stays hs, h.2.stays hs⟩
  case cGx => exact fun c j W W' h hs => ⟨h.1, h.2.stays hs⟩
  case c0 => exact ⟨HN0.out, HR0.out.below HUV.out⟩
  case cround =>
    rintro lp j args W hj ⟨p, f, hget, rfl⟩ hkw ⟨hg, hgr⟩
    obtain ⟨s, hs⟩ : ∃ s, str f.bytes = s := ⟨_, rfl⟩
    have hfa : (fdC f).toArray = #[.int .i64 f.num, .int .i64 f.typ, .int .u64 (f.word : Int), .string s] := by rw [← hs]; rfl
    rw [hfa]
    have hneq := neq_fd f s
    have hjl : j < (somes l).length := by rw [← hm.out]; exact hj
    have hge : (somes l)[j] = (p, f) := by rw [List.getElem?_eq_getElem hjl] at hget; exact Option.some.inj hget
    gi_wp2
    refine ⟨KeepA.of_below (below_alloc _), fun W2 hs2 hk2 => ?_⟩
    have hb2 : Below w.heap.size w W2 := HU.out.trans (hk2.below HU.out.size (fun b hb => by have := HNl.out; rcases hb with rfl | rfl <;> omega))
    have hfr : RowAt W2 W.heap.size 40 #[.int .i64 f.num, .int .i64 f.typ, .int .u64 (f.word : Int), .string s] := hs2 _ _ (heap_alloc_new W _) (.inr rfl)
    have hgb := (hg.below (below_alloc (.cells #[.int .i64 f.num, .int .i64 f.typ, .int .u64 (f.word : Int), .string s] 40))).stays hs2
    have hrb := (hgr.below (below_alloc (.cells #[.int .i64 f.num, .int .i64 f.typ, .int .u64 (f.word : Int), .string s] 40))).stays hs2
    have hgc := hgb.cell
    have hgf := hgb.frozen
    obtain ⟨d0, d1, d2, d3⟩ := hfr.cells4
    have hlc := ((HL0.out.below HUV.out).keepA hk2 (fun e => by have := HNl.out; rcases e with e | e <;> omega)).cell
    have hpc := ((HP0.out.below HUV.out).keepA hk2 (fun e => by have := HNl.out; rcases e with e | e <;> omega)).cell
    have hvb := (HV0.out.below HUV.out).keepA hk2 (fun e => by have := HNl.out; rcases e with e | e <;> omega)
    have HVS : Hid (∀ nq : Nat, _) := Lib.hid (fun nq : Nat => (Box.other (w := W2.drewN nq) hvb (a := ⟨N, 0, none⟩) (.int .i64 ((j : Int) + 1)) (by have := HNl.out; simp only; omega)).cell)
    have HNS : Hid (∀ nq : Nat, _) := Lib.hid (fun nq : Nat => (Box.set (w := W2.drewN nq) hgb (.int .i64 ((j : Int) + 1))).cell)
    obtain ⟨b1, o1, rfl, _, hx1⟩ := fd_cells (hf.out.mono hb2) (by rw [List.length_map]; omega)
    obtain ⟨b2, o2, rfl, _, hx2⟩ := rdI_cells (hp.out.mono hb2) (by rw [List.length_map]; omega)
    obtain ⟨e0, e1, e2, e3⟩ := hx1 j (by rw [List.length_map]; exact hjl)
    have e4 := hx2 j (by rw [List.length_map]; exact hjl)
    simp only [List.getElem_map, hge] at e0 e1 e2 e3 e4
    rw [hs] at e3
    have hnm : decide (m ≤ j) = false := decide_eq_false (by omega)
    have hk3 := Lib.hid (KeepA.refl (fun b => b = N ∨ b = w.heap.size + 1 + 1 + 1) W2)
    have hrn : w.heap.size + 1 + 1 + 1 ≠ N := by have := HNl.out; omega
    have hrs := fun nq : Nat => (Box.other (w := W2.drewN nq) hrb (a := ⟨N, 0, none⟩) (.int .i64 ((j : Int) + 1)) hrn)
    have HRS := Lib.hid hrs
    have HGB : Hid (∀ n, Box ((W2.drewN n).setCell ⟨N, 0, none⟩ (.int .i64 ((j : Int) + 1))) N 3 (.int .i64 ((j + 1 : Nat) : Int))) := fun n => hgb.set (.int .i64 ((j : Int) + 1))
    have HK : Hid (∀ n v, KeepA (fun b => b = N ∨ b = w.heap.size + 1 + 1 + 1) W2 ((W2.drewN n).setCell ⟨N, 0, none⟩ v)) := fun n v => KeepA.setCell (W' := W2.drewN n) ⟨rfl, rfl, rfl, Nat.le_refl _, fun _ _ _ => rfl⟩ (.inl rfl)
    clear hx1 hx2 hge hget hjl hs2 hk2 hb2 hfr hgb hvb hkw hg hs hfa hrb hrs hgr
    by_cases hlv : (j : Int) + 1 = leave
    · have hlvb : ((j : Int) + 1 == leave) = true := by simpa using hlv
      have HLV := Lib.hid hlv
      clear hlv
      gi_wp2_with fail
      refine wpIn_region_quiet_round (by kernel_rfl) (by kernel_rfl) (by kernel_rfl) ?_
      repeat (go_big_quiet_step (fail))
      refine wpQuiet_nil ?_
      rintro _ ⟨nq, rfl⟩
      have hvc := HVS.out nq
      have hnc := HNS.out nq
      have hrc := (HRS.out nq).cell
      have hrf := (HRS.out nq).frozen
      gi_wp2_with fail
      exact ⟨(HK.out nq _).setCell (.inr rfl), rfl, (HRS.out nq).set (.bool true)⟩
    · have hlvb : ((j : Int) + 1 == leave) = false := by simpa using hlv
      clear hlv
      gi_wp2_with fail
      refine wpIn_region_quiet_round (by kernel_rfl) (by kernel_rfl) (by kernel_rfl) ?_
      repeat (go_big_quiet_step (fail))
      refine wpQuiet_nil ?_
      rintro _ ⟨nq, rfl⟩
      have hvc := HVS.out nq
      have hnc := HNS.out nq
      gi_wp2_with fail
      exact ⟨HK.out nq _, HGB.out nq, HRS.out nq⟩
  case cdone =>
    rintro D W hD hkw ⟨hg, hgr⟩ hdf
    have hlc := ((HL0.out.below HUV.out).keepA hkw (fun e => by have := HNl.out; rcases e with e | e <;> omega)).cell
    have hgc := hg.cell
    have hrc := hgr.cell
    have hrf := hgr.frozen
    have HR := Lib.hid (hgr.set (.bool true))
    have HDF := Lib.hid hdf
    have hDr : D ≠ w.heap.size + 1 + 1 + 1 := by have := HNl.out; have := HUV.out.size; omega
    have HDr := Lib.hid hDr
    have HBW : Hid (Below w.heap.size w (W.setCell ⟨w.heap.size + 1 + 1 + 1, 0, none⟩ (.bool true))) := (HU.out.trans (hkw.below HU.out.size (fun b hb => by have := HNl.out; rcases hb with rfl | rfl <;> omega))).setCell (p := ⟨w.heap.size + 1 + 1 + 1, 0, none⟩) (by simp; omega) _
    have HDW : Hid (w.heap.size ≤ D) := Nat.le_trans HU.out.size hD
    clear hg hgr hdf hkw hD hDr
    go_wp2
    refine post_marks [D] rfl (by simp) (by intro x hx; simp at hx; rw [hx]; exact (heap_setCell_other W _ D _ HDr.out).trans HDF.out) fun w' hk => ⟨.bool true, ?_, rfl, ?_⟩
    · exact results_box rfl rfl (HR.out.keepA hk (fun hx => by simp at hx; exact HDr.out hx.symm)) rfl Try.underlying4
    · exact HBW.out.trans (hk.below HBW.out.size (fun x hx => by simp at hx; subst hx; exact HDW.out))
  case cstop =>
    rintro D c j W hD hj hkw ⟨rfl, hgr⟩ hdf
    have HDr : Hid (D ≠ w.heap.size + 1 + 1 + 1) := by show _ ≠ _; have := HNl.out; have := HUV.out.size; omega
    have HBW : Hid (Below w.heap.size w W) := HU.out.trans (hkw.below HU.out.size (fun b hb => by have := HNl.out; rcases hb with rfl | rfl <;> omega))
    have HDW : Hid (w.heap.size ≤ D) := Nat.le_trans HU.out.size hD
    have HR := Lib.hid hgr
    have HDF := Lib.hid hdf
    clear hgr hdf hkw hD
    go_wp2
    refine post_marks [D] rfl (by simp) (by intro x hx; simp at hx; rw [hx]; exact HDF.out) fun w' hk => ⟨.bool true, ?_, rfl, ?_⟩
    · exact results_box rfl rfl (HR.out.keepA hk (fun hx => by simp at hx; exact HDr.out hx.symm)) rfl Try.underlying4
    · exact HBW.out.trans (hk.below HBW.out.size (fun x hx => by simp at hx; subst hx; exact HDW.out))
end Go.Proofs.Ytomfdiomakjeoaa
