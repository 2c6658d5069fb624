/- wire.All: the iterator's contract: it hands over the fields that some bytes are, with their places, one by one, for every loop body that leaves its cells alone. -/
import Derived.Test.YtomfdiomakjeoaaWireRows
import Derived.Test.YtomfdiomakjeoaaWireAll
import Derived.Test.YtomfdiomakjeoaaRange
namespace Go.Proofs.Ytomfdiomakjeoaa
open Go.RowKit

attribute [local go_sem] Oper.semAt_some

/-- The fields up to the first that is none, where each begins. -/
def rdSome : Nat → Nat → List UInt8 → List (Nat × Fd)
  | 0, _, _ => []
  | n + 1, p, l => if l = [] then [] else match rdOne l with
    | none => []
    | some (f, k) => (p, f) :: rdSome n (p + k) (l.drop k)
/-- Are they all? -/
def someOk : Nat → List UInt8 → Bool
  | 0, _ => false
  | n + 1, l => if l = [] then true else match rdOne l with
    | none => false
    | some (_, k) => someOk n (l.drop k)
theorem rdSome_nil (n p : Nat) : rdSome (n + 1) p [] = [] := by unfold rdSome; rw [if_pos rfl]
theorem rdSome_cons {n p : Nat} {l : List UInt8} (h : l ≠ []) : rdSome (n + 1) p l = match rdOne l with | none => [] | some (f, k) => (p, f) :: rdSome n (p + k) (l.drop k) := by
  conv => lhs; unfold rdSome
  rw [if_neg h]
theorem someOk_nil (n : Nat) : someOk (n + 1) [] = true := by unfold someOk; rw [if_pos rfl]
theorem someOk_cons {n : Nat} {l : List UInt8} (h : l ≠ []) : someOk (n + 1) l = match rdOne l with | none => false | some (_, k) => someOk n (l.drop k) := by
  conv => lhs; unfold someOk
  rw [if_neg h]
theorem rdSome_more (n : Nat) : ∀ (m p : Nat) (l : List UInt8), l.length < n → l.length < m → rdSome n p l = rdSome m p l := by
  induction n with
  | zero => intro m p l h; omega
  | succ n ih =>
    intro m p l h1 h2
    obtain ⟨m, rfl⟩ : ∃ k, m = k + 1 := ⟨m - 1, by omega⟩
    by_cases hl : l = []
    · subst hl; rw [rdSome_nil, rdSome_nil]
    · rw [rdSome_cons hl, rdSome_cons hl]
      cases hr : rdOne l with
      | none => rfl
      | some q =>
        obtain ⟨f, k⟩ := q
        have hp := rdOne_pos hr
        have := ih m (p + k) (l.drop k) (by rw [List.length_drop]; omega) (by rw [List.length_drop]; omega)
        simp only [this]
theorem someOk_more (n : Nat) : ∀ (m : Nat) (l : List UInt8), l.length < n → l.length < m → someOk n l = someOk m l := by
  induction n with
  | zero => intro m l h; omega
  | succ n ih =>
    intro m l h1 h2
    obtain ⟨m, rfl⟩ : ∃ k, m = k + 1 := ⟨m - 1, by omega⟩
    by_cases hl : l = []
    · subst hl; rw [someOk_nil, someOk_nil]
    · rw [someOk_cons hl, someOk_cons hl]
      cases hr : rdOne l with
      | none => rfl
      | some q =>
        obtain ⟨f, k⟩ := q
        have hp := rdOne_pos hr
        have := ih m (l.drop k) (by rw [List.length_drop]; omega) (by rw [List.length_drop]; omega)
        simp only [this]
theorem rdAll_some (n : Nat) : ∀ (p : Nat) (l : List UInt8), rdAll n l = if someOk n l then some ((rdSome n p l).map (·.2)) else none := by
  induction n with
  | zero => intro p l; rfl
  | succ n ih =>
    intro p l
    by_cases hl : l = []
    · subst hl; rw [rdAll_nil, someOk_nil, rdSome_nil]; rfl
    · rw [rdAll_cons hl, someOk_cons hl, rdSome_cons hl]
      cases hr : rdOne l with
      | none => rfl
      | some q =>
        obtain ⟨f, k⟩ := q
        simp only [ih (p + k) (l.drop k)]
        cases someOk n (l.drop k) <;> rfl
theorem rdSome_len (n : Nat) : ∀ (p : Nat) (l : List UInt8), (rdSome n p l).length ≤ l.length := by
  induction n with
  | zero => intro p l; simp [rdSome]
  | succ n ih =>
    intro p l
    by_cases hl : l = []
    · subst hl; rw [rdSome_nil]; simp
    · rw [rdSome_cons hl]
      cases hr : rdOne l with
      | none => simp
      | some q =>
        obtain ⟨f, k⟩ := q
        have hp := rdOne_pos hr
        have := ih (p + k) (l.drop k)
        rw [List.length_drop] at this
        simp only [List.length_cons]
        omega
/-- All that some bytes begin with. -/
def somes (l : List UInt8) : List (Nat × Fd) := rdSome (l.length + 1) 0 l
/-- k rounds are done: the next place. -/
def At (l : List UInt8) (k p : Nat) : Prop := p ≤ l.length ∧ k ≤ (somes l).length ∧ (somes l).drop k = rdSome (l.length + 1) p (l.drop p) ∧ someOk (l.length + 1) l = someOk (l.length + 1) (l.drop p)
theorem At.zero (l : List UInt8) : At l 0 0 := ⟨Nat.zero_le _, Nat.zero_le _, rfl, rfl⟩
theorem At.step {l : List UInt8} {k p : Nat} (h : At l k p) (hp : p < l.length) : (rdOne (l.drop p) = none ∧ k = (somes l).length ∧ someOk (l.length + 1) l = false) ∨
    ∃ f j, rdOne (l.drop p) = some (f, j) ∧ 0 < j ∧ p + j ≤ l.length ∧ k < (somes l).length ∧ (somes l)[k]? = some (p, f) ∧ At l (k + 1) (p + j) := by
  obtain ⟨h1, h2, h3, h4⟩ := h
  have hne : l.drop p ≠ [] := fun e => by have := congrArg List.length e; rw [List.length_drop] at this; simp at this; omega
  rw [rdSome_cons hne] at h3
  rw [someOk_cons hne] at h4
  cases hr : rdOne (l.drop p) with
  | none =>
    rw [hr] at h3 h4
    refine .inl ⟨rfl, ?_, h4⟩
    have := congrArg List.length h3
    rw [List.length_drop] at this
    simp at this
    omega
  | some q =>
    obtain ⟨f, j⟩ := q
    rw [hr] at h3 h4
    dsimp only at h3 h4
    have hpj := rdOne_pos hr
    rw [List.length_drop] at hpj
    have hk : k < (somes l).length := by
      have := congrArg List.length h3
      rw [List.length_drop] at this
      simp at this
      omega
    rw [List.drop_drop] at h3 h4
    refine .inr ⟨f, j, rfl, hpj.1, by omega, hk, ?_, by omega, by omega, ?_, ?_⟩
    · have := congrArg (·[0]?) h3
      simpa [List.getElem?_drop] using this
    · have := congrArg (List.drop 1) h3
      rw [List.drop_drop] at this
      rw [this]
      simp only [List.drop_succ_cons, List.drop_zero]
      exact rdSome_more _ _ _ _ (by rw [List.length_drop]; omega) (by rw [List.length_drop]; omega)
    · rw [h4]
      exact someOk_more _ _ _ (by rw [List.length_drop]; omega) (by rw [List.length_drop]; omega)
theorem At.end {l : List UInt8} {k : Nat} (h : At l k l.length) : k = (somes l).length ∧ someOk (l.length + 1) l = true := by
  obtain ⟨_, h2, h3, h4⟩ := h
  rw [List.drop_length, rdSome_nil] at h3
  rw [List.drop_length, someOk_nil] at h4
  have := congrArg List.length h3
  rw [List.length_drop] at this
  simp at this
  exact ⟨by omega, h4⟩
theorem rdB_keep {W W' : World} {X : Nat → Prop} {aa : Option Addr} {l : List UInt8} (h : RdB W aa l) (hk : KeepC X W W') (hx : ∀ b off, aa = some ⟨b, off, none⟩ → 0 < l.length → ¬ X b) : RdB W' aa l := by
  by_cases h0 : 0 < l.length
  · exact Rd.keepC h hk (fun b off ha _ => hx b off ha h0)
  · exact .inl (by rw [List.eq_nil_of_length_eq_zero (by omega : l.length = 0)]; rfl)
set_option maxRecDepth 100000 in
set_option maxHeartbeats 4000000 in
theorem wall1_stops (w : World) (B : Nat) (a : Option Addr) (n cap : Nat) (l : List UInt8) (hn : Hid (n = l.length)) (hc : n ≤ cap) (hcm : cap ≤ 9223372036854775807) (hb : n ≤ 2000000) (hbox : w.cell? ⟨B, 0, none⟩ = some (.slice a n cap)) (hl : RdB w a l)
    (X : Nat → Prop) (hXB : ¬ X B) (hXa : ∀ b off, a = some ⟨b, off, none⟩ → 0 < l.length → ¬ X b) (hX : ∀ k, X k → k < w.heap.size) :
    Stops Try.prog 45 #[.pointer (some ⟨B, 0, none⟩)] X (fun k args _ => ∃ p f, (somes l)[k]? = some (p, f) ∧ args = #[.int .i64 (p : Int), .agg (fdC f).toArray]) (somes l).length w := by
  intro lp J Jx W hW hJ hJx hY h0
  refine callsIn_of_wp Try.func45 rfl trivial ?_ rfl
  simp only [Try.ntmps45, List.size_toArray, List.length_cons, List.length_nil, Nat.reduceAdd, Nat.reduceSub, Array.replicate_succ, Array.replicate_zero, List.push_toArray, List.append_toArray, List.nil_append, List.cons_append]
  have hbl : B < w.heap.size := World.block_lt_of_cell? w _ hbox
  have hbox1 : W.cell? ⟨B, 0, none⟩ = some (.slice a n cap) := (hW.cell (p := ⟨B, 0, none⟩) hbl).trans hbox
  have hl1 := hl.mono hW
  have HBX := Lib.hid hbox1
  have HL := Lib.hid hl1
  have HX := Lib.hid hX
  have HXB := Lib.hid hXB
  have HXA := Lib.hid hXa
  have HJ := Lib.hid hJ
  have HY := Lib.hid hY
  have HWs := Lib.hid hW.size
  have H0 := Lib.hid h0
  clear hbl hbox1 hl1 hX hXB hXa hJ hJx hY hbox hl h0 hW
  gi_wp2
  gi_loopw [3] (fun p wr => ∃ k q : Nat, At l k q ∧ p = .int .i64 q ∧ q ≤ n ∧ J k wr ∧ KeepC X W wr) (fun p _ => n - (intOf p).toNat)
  case atStart => exact ⟨0, 0, At.zero l, rfl, Nat.zero_le _, H0.out, KeepC.refl _ _⟩
  case round =>
    obtain ⟨k, q, hat, rfl, hq, hJk, hkc⟩ := hrel
    have HAT := Lib.hid hat
    have HJK := Lib.hid hJk
    have HKC := Lib.hid hkc
    clear hat hJk hkc
    have hbx := HKC.out.cell HBX.out HXB.out
    by_cases hlt : q < n
    · have HLR := Lib.hid (rdB_keep HL.out HKC.out HXA.out)
      have hld : Hid (n - q = (l.drop q).length) := by show _ = _; rw [List.length_drop, ← hn.out]
      have hq0 : (0 : Int) ≤ (q : Int) := by omega
      have hq1 : (q : Int) ≤ (cap : Int) := by omega
      have hsz0 : wr.heap.size ≤ wr.heap.size + 1 := by omega
      refine wpIn_wide.2 ?_
      have hck : ¬ cap = q := by omega
      go_upto_region 3 with (first
        | (go_at_call 43; refine (one_any _ (l.drop q) (n - q) (cap - q) wr hld (by omega) (by omega) (HLR.out.dropB q cap (by rw [← hn.out]; exact hc) hck)).mono ?_; rintro e w1 ⟨⟨cs, jj, er, rfl, hcs, hall, hone⟩, hb1⟩; have HB1 := Lib.hid hb1; have HONE := Lib.hid hone; clear hb1 hone)
        | (refine step_storeRow rfl 40 (.tmp 4) (.tmp 16) rfl rfl w1.heap.size cs rfl rfl 40 zeroFd (by exact RowAt.new w1 _ _) (by rw [hcs]; exact aggFd.2) hcs.symm hall ?_; intro w2 h1 h2; have H2 := h1; have HB2 := Lib.hid (below_trans HB1.out ((below_alloc _).grown h2 (by simp) (fun g hg => by obtain rfl := Option.some.inj hg; exact Nat.le_refl _))); clear h1 h2))
      have HKC2 := Lib.hid (HKC.out.trans (KeepA.of_below HB2.out).c)
      have HJ2 := Lib.hid (HJ.out k _ _ none HJK.out (grown_below none HB2.out (Nat.le_refl _)) (by simp))
      rcases HONE.out with ⟨hnone, rfl⟩ | ⟨f, j, hsome, hcf, rfl, rfl⟩
      · have HE : Hid (k = (somes l).length) := by
          rcases HAT.out.step (by rw [← hn.out]; exact hlt) with ⟨_, h, _⟩ | ⟨f, j, h, _⟩
          · exact h
          · rw [hnone] at h; cases h
        clear hnone HONE HAT
        refine (wpIn_wide (n := 3)).1 ?_
        gi_wp2
        refine ⟨(fun _ h => nomatch h), ?_⟩
        gi_wp2
        go_wp2
        exact bodyPost_ret (results_none rfl _ _ _) rfl ⟨⟨_, rfl⟩, .inl (HE.out ▸ HJ2.out)⟩
      · obtain ⟨hj0, hqj, hks, hget, hat2⟩ : 0 < j ∧ q + j ≤ n ∧ k < (somes l).length ∧ (somes l)[k]? = some (q, f) ∧ At l (k + 1) (q + j) := by
          rcases HAT.out.step (by rw [← hn.out]; exact hlt) with ⟨h, _, _⟩ | ⟨f', j', h, h1, h2, h3, h4, h5⟩
          · rw [hsome] at h; cases h
          · rw [hsome] at h
            obtain ⟨rfl, rfl⟩ := Prod.mk.injEq _ _ _ _ ▸ Option.some.inj h
            exact ⟨h1, by rw [hn.out]; exact h2, h3, h4, h5⟩
        have HAT2 := Lib.hid hat2
        obtain ⟨s, hs⟩ : ∃ s, str f.bytes = s := ⟨_, rfl⟩
        have hcs2 : cs = #[.int .i64 f.num, .int .i64 f.typ, .int .u64 (f.word : Int), .string s] := by rw [hcf, ← hs]; rfl
        obtain ⟨fn, tmps, assign, body, hy, hR⟩ := HY.out k #[.int .i64 (q : Int), .agg #[.int .i64 f.num, .int .i64 f.typ, .int .u64 (f.word : Int), .string s]] w2 hks ⟨q, f, hget, by rw [← hs]; rfl⟩ HKC2.out HJ2.out
        have HR := Lib.hid hR
        rw [hcs2] at H2
        obtain ⟨d0, d1, d2, d3⟩ := H2.cells4
        clear hat2 hR hsome hget HONE HAT HJK HLR HJ2 hcf hs hcs2 hcs hall H2
        refine (wpIn_wide (n := 3)).1 ?_
        gi_wp2_with fail
        refine HR.out.mono ?_
        rintro e W3 (⟨rfl, hJ3, hk3⟩ | ⟨rfl, hJx3⟩)
        · have HJ3 := Lib.hid hJ3
          have HK3 := Lib.hid (HKC2.out.trans hk3)
          clear hJ3 hk3 d0 d1 d2 d3 hy
          gi_wp2
          go_wp2
          go_roundw
          case rel => exact ⟨k + 1, q + j, HAT2.out, by go_num, hqj, HJ3.out, HK3.out⟩
          case measure => simp [intOf]; omega
        · have HJ3 := Lib.hid hJx3
          clear hJx3 d0 d1 d2 d3 hy
          gi_wp2
          go_wp2
          exact bodyPost_ret (results_none rfl _ _ _) rfl ⟨⟨_, rfl⟩, .inr ⟨k, hks, HJ3.out⟩⟩
    · obtain rfl : q = n := by omega
      obtain ⟨he, _⟩ := At.end (l := l) (k := k) (by rw [← hn.out]; exact HAT.out)
      have HE := Lib.hid he
      clear he HAT
      gi_wp2
      go_end0
      exact ⟨⟨_, rfl⟩, .inl (HE.out ▸ HJK.out)⟩
end Go.Proofs.Ytomfdiomakjeoaa
