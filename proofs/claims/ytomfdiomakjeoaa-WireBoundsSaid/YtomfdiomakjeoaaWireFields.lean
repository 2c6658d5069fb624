/- How fields are read: wire.Fields. -/
import Derived.Test.YtomfdiomakjeoaaWireOne
namespace Go.Proofs.Ytomfdiomakjeoaa
open Go.RowKit Go.BigFrame

/-- The fields that some bytes are; none: they are none. -/
def rdAll : Nat → List UInt8 → Option (List Fd)
  | 0, _ => none
  | n + 1, l => if l = [] then some [] else match rdOne l with
    | none => none
    | some (f, k) => (rdAll n (l.drop k)).map (f :: ·)
theorem rdOne_pos {l : List UInt8} {f : Fd} {k : Nat} (h : rdOne l = some (f, k)) : 0 < k ∧ k ≤ l.length ∧ f.Ok := by
  have hv := verr_cases l
  have h1 := vlen_le l
  have h2 := vlen_le (l.drop (vlen l))
  have h3 := vval_lt (l.drop (vlen l))
  have hdl : (l.drop (vlen l)).length = l.length - vlen l := List.length_drop
  unfold rdOne at h
  by_cases hb : verr l ≠ 0 ∨ 4294967296 ≤ vval l ∨ vval l < 8
  · rw [if_pos hb] at h; cases h
  · rw [if_neg hb] at h
    by_cases t0 : vval l % 8 = 0
    · rw [if_pos t0] at h
      split at h
      · obtain ⟨rfl, rfl⟩ := Prod.mk.injEq _ _ _ _ ▸ Option.some.inj h
        exact ⟨by omega, by omega, ⟨by dsimp only; omega, by dsimp only; omega, by dsimp only; omega, by dsimp only; omega, h3⟩⟩
      · cases h
    · rw [if_neg t0] at h
      by_cases t1 : vval l % 8 = 1 ∨ vval l % 8 = 5
      · rw [if_pos t1] at h
        obtain ⟨z, hz⟩ : ∃ z, (if vval l % 8 = 1 then 8 else 4) = z := ⟨_, rfl⟩
        have hz8 : z = 8 ∨ z = 4 := by rw [← hz]; split <;> simp
        rw [hz] at h
        split at h
        · cases h
        · rename_i hlen
          obtain ⟨rfl, rfl⟩ := Prod.mk.injEq _ _ _ _ ▸ Option.some.inj h
          have hlt := leB_lt ((l.drop (vlen l)).take z)
          have hlt2 : (256 : Nat) ^ ((l.drop (vlen l)).take z).length ≤ 256 ^ 8 := Nat.pow_le_pow_right (by decide) (by rw [List.length_take]; omega)
          exact ⟨by omega, by omega, ⟨by dsimp only; omega, by dsimp only; omega, by dsimp only; omega, by dsimp only; omega, Nat.lt_of_lt_of_le hlt hlt2⟩⟩
      · rw [if_neg t1] at h
        by_cases t2 : vval l % 8 = 2
        · rw [if_pos t2] at h
          split at h
          · cases h
          · obtain ⟨rfl, rfl⟩ := Prod.mk.injEq _ _ _ _ ▸ Option.some.inj h
            exact ⟨by omega, by omega, ⟨by dsimp only; omega, by dsimp only; omega, by dsimp only; omega, by dsimp only; omega, by dsimp only; omega⟩⟩
        · rw [if_neg t2] at h; cases h
theorem rdAll_nil (n : Nat) : rdAll (n + 1) [] = some [] := by unfold rdAll; rw [if_pos rfl]
theorem rdAll_cons {n : Nat} {l : List UInt8} (h : l ≠ []) : rdAll (n + 1) l = match rdOne l with | none => none | some (f, k) => (rdAll n (l.drop k)).map (f :: ·) := by
  conv => lhs; unfold rdAll
  rw [if_neg h]
/-- More turns than bytes change nothing. -/
theorem rdAll_more (n : Nat) : ∀ (m : Nat) (l : List UInt8), l.length < n → l.length < m → rdAll n l = rdAll m l := by
  induction n with
  | zero => intro m l h; omega
  | succ n ih =>
    intro m l h1 h2
    obtain ⟨m, rfl⟩ : ∃ k, m = k + 1 := ⟨m - 1, by omega⟩
    by_cases hl : l = []
    · subst hl; rw [rdAll_nil, rdAll_nil]
    · rw [rdAll_cons hl, rdAll_cons hl]
      cases hr : rdOne l with
      | none => rfl
      | some p =>
        obtain ⟨f, k⟩ := p
        have hp := rdOne_pos hr
        have := ih m (l.drop k) (by rw [List.length_drop]; omega) (by rw [List.length_drop]; omega)
        simp only [this]
/-- What Fields answers. -/
def fieldsOf (l : List UInt8) : List Fd × Nat :=
  if 1048576 < l.length then ([], 3) else match rdAll (l.length + 1) l with | none => ([], 270) | some fs => (fs, 0)
/-- A row of fields of the call's own. -/
def OwnF (w : World) (base : Nat) (v : Value) (fs : List Fd) : Prop := w.ownsRow base 40 4 v fs.length (fdsC fs)
theorem OwnF.nil (w : World) (base : Nat) : OwnF w base (.slice none 0 0) [] := World.ownsRow_nil w base 40 4
theorem OwnF.rd {w : World} {base : Nat} {v : Value} {fs : List Fd} (h : OwnF w base v fs) : ∃ a cap, v = .slice a fs.length cap ∧ fs.length ≤ cap ∧ RdF w a fs := Rd.of_own h
theorem OwnF.kept {w w' : World} {B base : Nat} {v : Value} {fs : List Fd} (h : OwnF w base v fs) (hb : Below B w w') (hB : w.heap.size ≤ B) : OwnF w' base v fs := by
  refine ⟨h.1, ?_⟩
  rcases h.2 with h | ⟨g, cap, cur, hv, hg, hh, r⟩
  · exact .inl h
  · exact .inr ⟨g, cap, cur, hv, hg, by rw [hb.block g (Nat.lt_of_lt_of_le (Array.getElem?_eq_some_iff.1 hh).1 hB)]; exact hh, r⟩
theorem OwnF.grown {w w' : World} {base : Nat} {v : Value} {fs : List Fd} {row : Option Nat} (h : OwnF w base v fs) (hg : w.grownBy w' row) (hr : ∀ g, row = some g → v.ownBlock ≠ some g) : OwnF w' base v fs := by
  refine ⟨h.1, ?_⟩
  rcases h.2 with h | ⟨g, cap, cur, rfl, hbg, hh, r⟩
  · exact .inl h
  · exact .inr ⟨g, cap, cur, rfl, hbg, (hg.block g (Array.getElem?_eq_some_iff.1 hh).1 (fun e => hr g e.symm rfl)).trans hh, r⟩
theorem OwnF.sep {w : World} {base : Nat} {v : Value} {fs : List Fd} (h : OwnF w base v fs) {b : Nat} (hb : w.heap.size ≤ b) : v.ownBlock ≠ some b := by
  intro e
  have := (World.ownsRow.lt h b e).2
  omega
theorem eltF : Elt Try.prog 37 40 4 40 (.agg zeroFd) := ⟨Try.underlying37, by kernel_rfl, rfl, by decide⟩

set_option maxRecDepth 100000 in
set_option maxHeartbeats 1000000 in
theorem fields_any (a : Option Addr) (l : List UInt8) (n cap : Nat) (w : World) (hn : Hid (n = l.length)) (hc : n ≤ cap) (hc2 : cap ≤ 9223372036854775807) (hl : RdB w a l) :
    Calls Try.prog 26 #[.slice a n cap] w fun e w' =>
      ∃ v, e = .returned (.tuple #[v, .int .i64 ((fieldsOf l).2 : Int)]) ∧ OwnF w' w.heap.size v (fieldsOf l).1 ∧ Below w.heap.size w w' := by
  have HL := Lib.hid hl
  clear hl
  by_cases hbig : 1048576 < n
  · have hf : fieldsOf l = ([], 3) := by unfold fieldsOf; rw [if_pos (by rw [← hn.out]; exact hbig)]
    rw [hf]
    go_enter Try.func26, Try.ntmps26
    go_wp2
    go_ret2
    exact ⟨_, rfl, OwnF.nil _ _, Below.refl _ _⟩
  · have hf : fieldsOf l = match rdAll (l.length + 1) l with | none => ([], 270) | some fs => (fs, 0) := by unfold fieldsOf; rw [if_neg (by rw [← hn.out]; exact hbig)]
    obtain ⟨fo, hfo⟩ : ∃ fo, fieldsOf l = fo := ⟨_, rfl⟩
    rw [hfo]
    rw [hfo] at hf
    have HF := Lib.hid hf
    clear hf hfo
    go_enter Try.func26, Try.ntmps26
    go_wp2
    go_loopw [0, 4] (fun s v wr => Below w.heap.size w wr ∧ ∃ (ar : Option Addr) (nr capr : Nat) (lr : List UInt8) (fs : List Fd), s = .slice ar nr capr ∧ nr = lr.length ∧ nr ≤ capr ∧ capr ≤ cap ∧ RdB w ar lr ∧ OwnF wr w.heap.size v fs ∧ lr.length + fs.length ≤ l.length ∧
      (rdAll (l.length + 1) l = (rdAll (lr.length + 1) lr).map (fs ++ ·))) (fun s _ _ => match s with | .slice _ n _ => n | _ => 0)
    case atStart => exact ⟨Below.refl _ _, a, n, cap, l, [], rfl, hn.out, hc, Nat.le_refl _, HL.out, OwnF.nil _ _, by simp, by simp⟩
    case round =>
      obtain ⟨hb, ar, nr, capr, lr, fs, rfl, hnr, hcr, hcr2, hlr, ho, hlen, hrd⟩ := hrel
      have HB := Lib.hid hb
      have HO := Lib.hid ho
      have HR := Lib.hid hrd
      have HLR := Lib.hid hlr
      have HNR := Lib.hid hnr
      have HLEN := Lib.hid hlen
      clear hb ho hrd hlr hnr hlen
      by_cases hpos : 0 < nr
      · go_wp2_with fail
        refine (one_any ar lr nr capr _ HNR hcr (by omega) (HLR.out.mono HB.out)).mono ?_
        rintro e w1 ⟨⟨cs, jj, er, rfl, hcs, hall, hone⟩, hb1⟩
        have HB1 := Lib.hid (HB.out.trans (hb1.mono HB.out.size))
        have HO1 := Lib.hid (HO.out.kept hb1 (Nat.le_refl _))
        clear hb1 HB HO
        rcases hone with ⟨hnone, rfl⟩ | ⟨f, k, hsome, hcf, rfl, rfl⟩
        · have HE : Hid (fo = ([], 270)) := by
            show _ = _
            rw [HF.out, HR.out, rdAll_cons (by intro e; have := HNR.out; rw [e] at this; simp at this; omega), hnone]
            rfl
          clear HF HR hnone
          go_wp2_with (refine step_storeRow rfl 40 (.tmp 5) (.tmp 17) rfl rfl w1.heap.size cs rfl rfl 40 zeroFd (by exact RowAt.new w1 _ _) (by rw [hcs]; exact aggFd.2) hcs.symm hall ?_; intro w2 h1 h2; have HB2 := Lib.hid ((HB1.out.alloc HB1.out.size _).grown h2 (by have := HB1.out.size; simp; omega) (fun g hg => by obtain rfl := Option.some.inj hg; exact HB1.out.size)); clear h1 h2)
          go_ret2
          rw [HE.out]
          exact ⟨_, rfl, OwnF.nil _ _, HB2.out⟩
        · have hpk := rdOne_pos hsome
          have hk1 := hpk.1
          have hk2 : k ≤ nr := by rw [HNR.out]; exact hpk.2.1
          have HR2 : Hid (rdAll (l.length + 1) l = (rdAll ((lr.drop k).length + 1) (lr.drop k)).map ((fs ++ [f]) ++ ·)) := by
            show _ = _
            rw [HR.out, rdAll_cons (by intro e; have := HNR.out; rw [e] at this; simp at this; omega), hsome]
            dsimp only
            rw [rdAll_more lr.length ((lr.drop k).length + 1) (lr.drop k) (by rw [List.length_drop]; have := hpk.2.1; omega) (by omega), Option.map_map]
            congr 1
            funext x
            simp
          have HCF : Hid (cs = #[.int .i64 f.num, .int .i64 f.typ, .int .u64 (f.word : Int), .string (str f.bytes)]) := hcf
          clear HR hsome hpk hcf
          obtain ⟨s, hs⟩ : ∃ s, str f.bytes = s := ⟨_, rfl⟩
          have HS := Lib.hid hs
          rw [hs] at HCF
          clear hs
          go_wp2_with (first | (refine step_storeRow rfl 40 (.tmp 5) (.tmp 17) rfl rfl w1.heap.size cs rfl rfl 40 zeroFd (by exact RowAt.new w1 _ _) (by rw [hcs]; exact aggFd.2) hcs.symm hall ?_; intro w2 h1 h2; have H2 := h1; have HO2 := Lib.hid ((HO1.out.kept (below_alloc _) (Nat.le_refl _)).grown h2 (fun g hg => by obtain rfl := Option.some.inj hg; exact HO1.out.sep (Nat.le_refl _))); have HB2 := Lib.hid ((HB1.out.alloc HB1.out.size _).grown h2 (by have := HB1.out.size; simp; omega) (fun g hg => by obtain rfl := Option.some.inj hg; exact HB1.out.size)); clear h1 h2) | (refine step_loadRow rfl 40 (.tmp 5) rfl w1.heap.size rfl H2 (by rw [hcs]; exact aggFd) ?_; rw [HCF.out]) | (at_builtin; refine step_append rfl (.tmp 23) (.tmp 25) rfl eltF w.heap.size _ fs.length (fdsC fs) rfl _ 1 _ [.int .i64 f.num, .int .i64 f.typ, .int .u64 (f.word : Int), .string s] rfl (HO2.out.kept (below_alloc _) (Nat.le_refl _)) rfl (rd_lit _ _ _ _ _ rfl) (by simp [Value.oneCell']) (by have := HLEN.out; have := HNR.out; have := hn.out; omega) (by have := HLEN.out; have := HNR.out; have := hn.out; omega) (by have := HB2.out.size; simp; omega) ?_; intro v3 w3 h1 h2 h3; have HO3 := Lib.hid h1; have HB3 := Lib.hid ((HB2.out.alloc HB2.out.size _).grown h2 (by have := HB2.out.size; simp; omega) (fun g hg => (World.ownsRow.lt HO2.out g hg).1)); clear h1 h2 h3))
          refine ⟨⟨HB3.out, _, _, _, lr.drop k, fs ++ [f], rfl, by rw [List.length_drop, ← HNR.out], by omega, by omega, HLR.out.dropA k capr (by rw [← HNR.out]; exact hcr), ?_, ?_, HR2.out⟩, ?_⟩
          · have h := HO3.out
            rw [← HS.out] at h
            unfold OwnF fdsC
            rw [List.flatMap_append, List.length_append]
            exact h
          · have h := HLEN.out
            have h2 := HNR.out
            rw [List.length_drop, List.length_append]
            show lr.length - k + (fs.length + 1) ≤ _
            omega
          · show nr - k < nr
            omega
      · obtain rfl : nr = 0 := by omega
        have hlr0 : lr = [] := List.eq_nil_of_length_eq_zero HNR.out.symm
        have HE : Hid (fo = (fs, 0)) := by
          show _ = _
          rw [HF.out, HR.out, hlr0, rdAll_nil]
          simp
        clear HF HR
        go_wp2
        go_ret2
        rw [HE.out]
        exact ⟨_, rfl, HO.out, HB.out⟩
end Go.Proofs.Ytomfdiomakjeoaa
