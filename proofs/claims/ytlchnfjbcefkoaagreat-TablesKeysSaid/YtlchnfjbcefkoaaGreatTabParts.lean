/- tables.Parts: what bytes tell. -/
import Derived.Test.YtlchnfjbcefkoaaGreatTabPart
namespace Go.Proofs.YtlchnfjbcefkoaaGreat
open Go.RowKit

theorem own_basex {w : World} {base base' : Nat} {e : TypeId} {size : Nat} {v : Value} {n : Nat} {xs : List Value} (h : w.ownsRow base e size v n xs) (hb : base' ≤ base) : w.ownsRow base' e size v n xs := by
  refine ⟨h.1, ?_⟩
  rcases h.2 with h | ⟨g, cap, cur, rfl, hbg, r⟩
  · exact .inl h
  · exact .inr ⟨g, cap, cur, rfl, Nat.le_trans hb hbg, r⟩
/-- All parts of bytes, and the name before them. -/
def partsOf (b : List UInt8) : Option (List UInt8 × List Pt) := if 300 < b.length then none else match dec b with
  | none => none
  | some (p, r) => match decs r.length r with
    | none => none
    | some l => if keyOk p.s l = true ∧ encs (tab p.s :: l) = b then some (p.s, l) else none
theorem eltP : Elt Tryz.prog 22 42 3 32 (.agg #[.string ⟨#[]⟩, .int .i64 0, .bool false]) := ⟨Tryz.underlying22, by kernel_rfl, rfl, by decide⟩
theorem bequal_any (a a2 : Option Addr) (l l2 : List UInt8) (n c n2 c2 : Nat) (w : World) (hn : n = l.length) (hn2 : n2 = l2.length) (h : RdB w a l) (h2 : RdB w a2 l2) :
    Calls Tryz.prog 25 #[.slice a n c, .slice a2 n2 c2] w fun e w' => e = .returned (.bool (decide (l = l2))) ∧ Below w.heap.size w w' := by
  have H1 := run_str (P := Tryz.prog) w 23 9 5 a n c l Tryz.underlying23 Tryz.underlying5 Tryz.underlying9 hn h
  have H2 := run_str (P := Tryz.prog) w 23 9 5 a2 n2 c2 l2 Tryz.underlying23 Tryz.underlying5 Tryz.underlying9 hn2 h2
  have he : ((str l).toList == (str l2).toList) = decide (l = l2) := by
    rw [str_toList, str_toList]
    by_cases e : l = l2
    · rw [decide_eq_true e, e]; simp
    · rw [decide_eq_false e]; simpa using e
  obtain ⟨S, hS⟩ : ∃ S, str l = S := ⟨_, rfl⟩
  obtain ⟨S2, hS2⟩ : ∃ S, str l2 = S := ⟨_, rfl⟩
  rw [hS] at H1 he
  rw [hS2] at H2 he
  obtain ⟨d, hd⟩ : ∃ d, decide (l = l2) = d := ⟨_, rfl⟩
  rw [hd] at he ⊢
  clear hd h h2 hS hS2 hn hn2
  go_enter Tryz.func25, Tryz.ntmps25
  go_wp2
  go_ret
  exact ⟨rfl, Below.refl _ _⟩
theorem decT_acc : ∀ (n : Nat) (b acc s r : List UInt8), b.length ≤ n → decT b acc = some (s, r) → s.length ≤ acc.length + b.length
  | 0, b, acc, s, r, hn, h => by
    match b, hn with
    | [], _ => simp [decT] at h
  | n + 1, b, acc, s, r, hn, h => by
    match b, hn, h with
    | [], _, h => simp [decT] at h
    | [_], _, h => simp [decT] at h
    | c :: d :: t, hn, h =>
      unfold decT at h
      simp only [List.length_cons] at hn ⊢
      split at h
      · split at h
        · simp only [Option.some.injEq, Prod.mk.injEq] at h; rw [← h.1]; omega
        · split at h
          · have := decT_acc n t _ s r (by omega) h; simp at this; omega
          · cases h
      · have := decT_acc n (d :: t) _ s r (by simp; omega) h
        simp at this; omega
theorem beV_lt (l : List UInt8) (h : l.length ≤ 8) : beV l < 18446744073709551616 := by
  have key : ∀ (l : List UInt8) (a : Nat), l.foldl (fun n c => n * 256 + c.toNat) a < (a + 1) * 256 ^ l.length := by
    intro l
    induction l with
    | nil => intro a; simp
    | cons c l ih =>
      intro a
      have := ih (a * 256 + c.toNat)
      have hc := c.toNat_lt
      rw [List.foldl_cons, List.length_cons, Nat.pow_succ, Nat.mul_comm (256 ^ l.length) 256, ← Nat.mul_assoc]
      refine Nat.lt_of_lt_of_le this (Nat.mul_le_mul_right _ (by omega))
  have := key l 0
  simp only [Nat.zero_add, Nat.one_mul] at this
  refine Nat.lt_of_lt_of_le this (Nat.pow_le_pow_right (by decide) h)
theorem dec_fine {b r : List UInt8} {p : Pt} (h : dec b = some (p, r)) : p.Ok ∧ p.s.length ≤ b.length ∧ r.length < b.length := by
  have hl := dec_len h
  unfold dec at h
  split at h
  · cases h
  · rename_i k t
    split at h
    · simp only [Option.some.injEq, Prod.mk.injEq] at h
      obtain ⟨rfl, rfl⟩ := h
      have := beV_lt (t.take 8) (by simp; omega)
      refine ⟨⟨?_, ?_⟩, Nat.zero_le _, hl⟩
      · show _ ≤ down _; unfold down; omega
      · show down _ ≤ _; unfold down; omega
    · split at h
      · cases hd : decT t [] with
        | none => rw [hd] at h; cases h
        | some x =>
          rw [hd] at h
          simp only [Option.map_some, Option.some.injEq, Prod.mk.injEq] at h
          have := decT_acc _ t [] x.1 x.2 (Nat.le_refl _) hd
          obtain ⟨rfl, rfl⟩ := h
          refine ⟨⟨by show (-9223372036854775808 : Int) ≤ 0; omega, by show (0 : Int) ≤ 9223372036854775807; omega⟩, ?_, hl⟩
          simp at this ⊢; omega
      · cases h
theorem decs_fuel : ∀ (k : Nat) (r : List UInt8), r.length ≤ k → decs k r = decs r.length r
  | k, [], _ => by cases k <;> rfl
  | 0, _ :: _, h => by simp at h
  | k + 1, c :: b, h => by
    show decs (k + 1) (c :: b) = decs (b.length + 1) (c :: b)
    unfold decs
    cases hd : dec (c :: b) with
    | none => rfl
    | some x =>
      have := (dec_fine hd).2.2
      simp only [List.length_cons] at h this
      dsimp only
      rw [decs_fuel k x.2 (by omega), decs_fuel b.length x.2 (by omega)]
termination_by k => k
theorem decs_next {b r : List UInt8} {p : Pt} (h : dec b = some (p, r)) : decs b.length b = (decs r.length r).map (p :: ·) := by
  have hl := (dec_fine h).2.2
  cases b with
  | nil => simp at hl
  | cons c b =>
    show (match dec (c :: b) with | none => none | some (p, r) => (decs b.length r).map (p :: ·)) = _
    rw [h]
    dsimp only
    rw [decs_fuel b.length r (by simp at hl; omega)]
theorem decs_bad {b : List UInt8} (h0 : b ≠ []) (h : dec b = none) : decs b.length b = none := by
  cases b with
  | nil => exact absurd rfl h0
  | cons c b =>
    show decs (b.length + 1) (c :: b) = _
    unfold decs
    rw [h]
theorem own_grownx {w w' : World} {base : Nat} {e : TypeId} {size : Nat} {v : Value} {n : Nat} {xs : List Value} {b : Nat} (h : w.ownsRow base e size v n xs) (hg : w.grownBy w' (some b)) (hr : b < base) : w'.ownsRow base e size v n xs := by
  refine ⟨h.1, ?_⟩
  rcases h.2 with h | ⟨g, cap, cur, rfl, hbg, hh, r⟩
  · exact .inl h
  · exact .inr ⟨g, cap, cur, rfl, hbg, (hg.block g (Array.getElem?_eq_some_iff.1 hh).1 (fun e => by have := Option.some.inj e; omega)).trans hh, r⟩
theorem own_keptx {w w' : World} {base B : Nat} {e : TypeId} {size : Nat} {v : Value} {n : Nat} {xs : List Value} (h : w.ownsRow base e size v n xs) (hb : Below B w w') (hB : w.heap.size ≤ B) : w'.ownsRow base e size v n xs := by
  refine ⟨h.1, ?_⟩
  rcases h.2 with h | ⟨g, cap, cur, rfl, hbg, hh, r⟩
  · exact .inl h
  · exact .inr ⟨g, cap, cur, rfl, hbg, (hb.block g (Nat.lt_of_lt_of_le (Array.getElem?_eq_some_iff.1 hh).1 hB)).trans hh, r⟩
theorem part_open {w0 : World} {r : Nat} {b : List UInt8} {a : Option Addr} {n cap : Nat} {w : World} {e : Ending} {w' : World} (h : PartRet w0 r b (.slice a n cap) w e w') (hn : n = b.length) (hc : n ≤ cap) (hb : RdB w0 a b) :
    w.grownBy w' (some r) ∧ ∃ (p : Pt) (f : Bool) (rest : List UInt8) (a' : Option Addr) (c' : Nat), e = .returned (.agg (ptC p).toArray) ∧ RowAt w' r 62 #[.slice a' rest.length c', .bool f] ∧ rest.length ≤ c' ∧ RdB w0 a' rest ∧ p.Ok ∧ p.s.length ≤ b.length ∧ rest.length ≤ b.length ∧ (f = true ∧ dec b = some (p, rest) ∨ f = false ∧ dec b = none) := by
  obtain ⟨h1, ⟨p, rest, a', c', h2, h3, h4, h5, h6⟩ | ⟨h2, h3, h4⟩⟩ := h
  · have hf := dec_fine h2
    exact ⟨h1, p, true, rest, a', c', h3, h6, h4, h5, hf.1, hf.2.1, by omega, .inl ⟨rfl, h2⟩⟩
  · subst hn
    exact ⟨h1, ⟨[], 0, false⟩, false, b, a, cap, h3, h4, hc, hb, ⟨by decide, by decide⟩, Nat.zero_le _, Nat.le_refl _, .inr ⟨rfl, h2⟩⟩
def sliceLen : Value → Nat
  | .slice _ n _ => n
  | _ => 0
/-- What the rest of the bytes tells, behind some parts. -/
def Told (D : Option (List Pt)) (l : List Pt) (rest : List UInt8) (f : Bool) : Prop := f = true ∧ D = (decs rest.length rest).map (l ++ ·) ∨ f = false ∧ D = none
theorem Told.next {D : Option (List Pt)} {l : List Pt} {rest r2 : List UInt8} {p : Pt} {f : Bool} (h : Told D l rest true) (h0 : rest ≠ []) (hd : f = true ∧ dec rest = some (p, r2) ∨ f = false ∧ dec rest = none) : Told D (l ++ [p]) r2 f := by
  rcases h with ⟨_, h⟩ | ⟨h, _⟩
  · rcases hd with ⟨rfl, hd⟩ | ⟨rfl, hd⟩
    · refine .inl ⟨rfl, ?_⟩
      rw [h, decs_next hd, Option.map_map]
      congr 1
      funext x
      simp
    · exact .inr ⟨rfl, by rw [h, decs_bad h0 hd]; rfl⟩
  · cases h
theorem ptsC_snoc (l : List Pt) (p : Pt) : ptsC (l ++ [p]) = ptsC l ++ ptC p := by simp [ptsC]
theorem ptC_one (p : Pt) : ∀ u ∈ ptC p, u.oneCell' = true := by
  intro u hu
  simp only [ptC, List.mem_cons, List.not_mem_nil, or_false] at hu
  rcases hu with rfl | rfl | rfl <;> rfl
set_option maxRecDepth 100000 in
set_option maxHeartbeats 4000000 in
theorem parts_any (a : Option Addr) (b : List UInt8) (n cap : Nat) (w : World) (hn : Hid (n = b.length)) (hc : n ≤ cap) (hb : RdB w a b) :
    Calls Tryz.prog 10 #[.slice a n cap] w fun e w' => Below w.heap.size w w' ∧
      ((∃ t l v, partsOf b = some (t, l) ∧ e = .returned (.tuple #[.string (str t), v, .int .i64 0]) ∧ w'.ownsRow w.heap.size 42 3 v l.length (ptsC l)) ∨
        (partsOf b = none ∧ e = .returned (.tuple #[.string ⟨#[]⟩, .slice none 0 0, .int .i64 2]))) := by
  have HRB := Lib.hid hb
  clear hb
  by_cases h300 : 300 < n
  · have HP : Hid (partsOf b = none) := by show _ = _; unfold partsOf; rw [if_pos (by rw [← hn.out]; exact h300)]
    go_enter Tryz.func10, Tryz.ntmps10
    go_wp2
    go_ret3
    exact ⟨Below.refl _ _, .inr ⟨HP.out, rfl⟩⟩
  · have hr0 : RowAt (w.alloc (.cells #[.slice a n cap, .bool true] 62)) w.heap.size 62 #[.slice a n cap, .bool true] := RowAt.new _ _ _
    have hbe : Below w.heap.size w (w.alloc (.cells #[.slice a n cap, .bool true] 62)) := below_alloc _
    go_enter Tryz.func10, Tryz.ntmps10
    go_wp2_with fail
    refine (part_any w w.heap.size a b n cap _ hn hc (by omega) hr0 hbe (Nat.le_refl _) HRB.out).mono ?_
    intro e w2 hpart
    obtain ⟨hg2, ⟨s0, x0, is0⟩, f0, rest0, a0, c0, rfl, hr2, hc0, hrd0, hok0, hs0, hl0, hf0⟩ := part_open hpart hn.out hc HRB.out
    clear hpart
    dsimp only at hs0
    obtain ⟨S0, hS0⟩ : ∃ S, str s0 = S := ⟨_, rfl⟩
    have hb2 := hbe.grown hg2 (by rw [World.size_alloc]; omega) (fun g hg => by have := Option.some.inj hg; omega)
    have hz2 := hg2.size
    rw [World.size_alloc] at hz2
    obtain ⟨D, hD⟩ : ∃ D, (match dec b with | none => none | some (p, r) => decs r.length r) = D := ⟨_, rfl⟩
    have htold : Told D [] rest0 f0 := by
      rcases hf0 with ⟨rfl, h⟩ | ⟨rfl, h⟩
      · refine .inl ⟨rfl, ?_⟩
        rw [← hD, h]
        simp
      · exact .inr ⟨rfl, by rw [← hD, h]⟩
    have HD : Hid ((match dec b with | none => none | some (p, r) => decs r.length r) = D) := hD
    have HF0 := Lib.hid hf0
    have HT0 := Lib.hid htold
    have HS0 : Hid (str s0 = S0) := hS0
    rw [show (ptC ⟨s0, x0, is0⟩).toArray = #[.string S0, .int .i64 x0, .bool is0] by rw [← hS0]; rfl]
    have hrow2 : RowAt (w2.alloc (.cells #[.string S0, .int .i64 x0, .bool is0] 42)) w.heap.size 62 #[.slice a0 rest0.length c0, .bool f0] := hr2.below (below_alloc _)
    have htb : RowAt (w2.alloc (.cells #[.string S0, .int .i64 x0, .bool is0] 42)) w2.heap.size 42 #[.string S0, .int .i64 x0, .bool is0] := RowAt.new _ _ _
    have hb3 : Below w.heap.size w (w2.alloc (.cells #[.string S0, .int .i64 x0, .bool is0] 42)) := hb2.alloc (by omega) _
    have HROW := Lib.hid hrow2
    have HTB := Lib.hid htb
    have HB3 := Lib.hid hb3
    have HRD0 := Lib.hid hrd0
    have HOK0 := Lib.hid hok0
    clear hf0 htold hD hS0 hr2 hrow2 htb hb3 hrd0 hok0 hb2 hg2 hr0 hbe
    go_wp2
    generalize decide (300 < (n : Int)) = bb
    go_loopw [7] (fun u wr => ∃ (l : List Pt) (rest : List UInt8) (a' : Option Addr) (c' : Nat) (f : Bool), wr.ownsRow (w2.heap.size + 1) 42 3 u l.length (ptsC l) ∧ RowAt wr w.heap.size 62 #[.slice a' rest.length c', .bool f] ∧ rest.length ≤ c' ∧ RdB w a' rest ∧ RowAt wr w2.heap.size 42 #[.string S0, .int .i64 x0, .bool is0] ∧ Below w.heap.size w wr ∧ w2.heap.size + 1 ≤ wr.heap.size ∧ (∀ p ∈ l, p.Ok ∧ p.s.length ≤ 300) ∧ l.length ≤ 300 ∧ (f = true → rest.length + l.length ≤ 300) ∧ Told D l rest f) (fun u _ => 400 - sliceLen u)
    case atStart => exact ⟨[], rest0, a0, c0, f0, World.ownsRow_nil _ _ _ _, HROW.out, hc0, HRD0.out, HTB.out, HB3.out, by rw [World.size_alloc]; omega, by simp, by simp, by simp; have := hn.out; omega, HT0.out⟩
    case round =>
      obtain ⟨l, rest, a', c', f, ho, hr, hc', hrd, htb, hb, hz, hok, hll, hrl, htd⟩ := hrel
      have hcr0 := hr.cell 0
      have hcr1 := hr.cell 1
      simp only [List.getElem?_toArray, List.getElem?_cons_zero, List.getElem?_cons_succ] at hcr0 hcr1
      obtain ⟨N, hN⟩ : ∃ N, rest.length = N := ⟨_, rfl⟩
      rw [hN] at hcr0 hr hc' hrl
      have HO := Lib.hid ho
      have HR := Lib.hid hr
      have HRD := Lib.hid hrd
      have HTB2 := Lib.hid htb
      have HB := Lib.hid hb
      have HOK := Lib.hid hok
      have HTD := Lib.hid htd
      have HN := Lib.hid hN
      have hbn : b.length ≤ 300 := by have := hn.out; omega
      clear ho hr hrd htb hb hok htd hN HROW HTB HB3 HRD0 HT0
      by_cases hgo : f = true ∧ 0 < N
      · obtain ⟨rfl, hN0⟩ := hgo
        have hrl := hrl rfl
        go_wp2_with fail
        refine (part_any w w.heap.size a' rest N c' wr HN.out.symm hc' (by omega) HR.out HB.out (Nat.le_refl _) HRD.out).mono ?_
        intro e w4 hpart
        obtain ⟨hg4, ⟨s1, x1, is1⟩, f1, rest1, a1, c1, rfl, hr4, hc1, hrd1, hok1, hs1, hl1, hf1⟩ := part_open hpart HN.out.symm hc' HRD.out
        clear hpart
        dsimp only at hs1
        obtain ⟨S1, hS1⟩ : ∃ S, str s1 = S := ⟨_, rfl⟩
        have hz4 := hg4.size
        have ho4 := own_grownx HO.out hg4 (by omega)
        have htb4 := HTB2.out.grown hg4 (fun g hg => by have := Option.some.inj hg; omega)
        have hb4 := HB.out.grown hg4 HB.out.size (fun g hg => by have := Option.some.inj hg; omega)
        have htd1 := HTD.out.next (by intro e; rw [e] at HN; have := HN.out; simp at this; omega) hf1
        have hlt1 : rest1.length < N ∨ f1 = false := by
          rcases hf1 with ⟨_, h⟩ | ⟨h, _⟩
          · exact .inl (by rw [← HN.out]; exact (dec_fine h).2.2)
          · exact .inr h
        have hrow : Rd (w4.alloc (.cells #[.string S1, .int .i64 x1, .bool is1] 42)) (some ⟨w4.heap.size, 0, none⟩) (ptC ⟨s1, x1, is1⟩) := rd_lit _ _ _ _ _ (by rw [← hS1]; rfl)
        rw [show (ptC ⟨s1, x1, is1⟩).toArray = #[.string S1, .int .i64 x1, .bool is1] by rw [← hS1]; rfl]
        have HO4 := Lib.hid (own_keptx ho4 (below_alloc (.cells #[.string S1, .int .i64 x1, .bool is1] 42)) (Nat.le_refl _))
        have HR4 := Lib.hid (hr4.below (below_alloc (.cells #[.string S1, .int .i64 x1, .bool is1] 42)))
        have HTB4 := Lib.hid (htb4.below (below_alloc (.cells #[.string S1, .int .i64 x1, .bool is1] 42)))
        have HB4 := Lib.hid (hb4.alloc hb4.size (.cells #[.string S1, .int .i64 x1, .bool is1] 42))
        have HROW2 := Lib.hid hrow
        have HTD1 := Lib.hid htd1
        have HRD1 := Lib.hid hrd1
        have HOK1 := Lib.hid hok1
        clear ho4 hr4 htb4 hb4 hrow htd1 hrd1 hok1 hf1 hg4 hS1
        go_wp2_with (first | (at_builtin; refine step_append rfl (.tmp 30) (.tmp 33) rfl eltP (w2.heap.size + 1) _ l.length (ptsC l) rfl _ 1 _ (ptC ⟨s1, x1, is1⟩) rfl HO4.out rfl HROW2.out (ptC_one _) (by omega) (by omega) (by rw [World.size_alloc]; omega) ?_; intro v5 w5 h5 h6 h7))
        have hbase : ∀ g, Value.ownBlock _ = some g → w2.heap.size + 1 ≤ g := fun g hg => (World.ownsRow.lt HO4.out g hg).1
        have h8 := HR4.out.grown h6 (fun g hg => by have := hbase g hg; omega)
        have h9 := HTB4.out.grown h6 (fun g hg => by have := hbase g hg; omega)
        have h10 := HB4.out.grown h6 HB4.out.size (fun g hg => by have := hbase g hg; omega)
        have hz5 := h6.size
        rw [World.size_alloc] at hz5
        rw [← ptsC_snoc] at h5
        have hlen5 : (l ++ [(⟨s1, x1, is1⟩ : Pt)]).length = l.length + 1 := by simp
        rw [← hlen5] at h5
        obtain ⟨a5, c5, rfl, hc5, _⟩ := Rd.of_own h5
        obtain ⟨a6, c6, hu6, _, _⟩ := Rd.of_own HO4.out
        go_roundw
        case rel =>
          refine ⟨l ++ [⟨s1, x1, is1⟩], rest1, a1, c1, f1, h5, h8, hc1, HRD1.out, h9, h10, by omega, ?_, by omega, ?_, HTD1.out⟩
          · intro p hp
            rcases List.mem_append.1 hp with hp | hp
            · exact HOK.out p hp
            · rw [List.mem_singleton.1 hp]; exact ⟨HOK1.out, by dsimp only; have := HN.out; omega⟩
          · intro hf
            rcases hlt1 with h | h
            · omega
            · rw [h] at hf; cases hf
        case measure =>
          rw [hu6]
          simp only [sliceLen]
          omega
      · have hND : f = false ∨ N = 0 := by
          cases f with
          | false => exact .inl rfl
          | true => exact .inr (by rcases Nat.eq_zero_or_pos N with h | h; exact h; exact absurd ⟨rfl, h⟩ hgo)
        obtain ⟨a9, c9, rfl, hc9, hrd9⟩ := Rd.of_own HO.out
        have hct := HTB2.out.cells3.1
        have HPS : Hid (∀ p ∈ l, p.Ok) := fun p hp => (HOK.out p hp).1
        have HPL : Hid (∀ p ∈ l, p.s.length ≤ 1000000) := fun p hp => by have := (HOK.out p hp).2; omega
        have HRD9 := Lib.hid hrd9
        have HSL : Hid (s0.length ≤ 1000000) := by show _ ≤ _; omega
        clear hrd9
        have hN300 : ¬ 300 < b.length := by omega
        cases f with
        | false =>
          have HP : Hid (partsOf b = none) := by
            show _ = _
            have hd := HD.out
            rcases HTD.out with ⟨h, _⟩ | ⟨_, h⟩
            · cases h
            · rw [h] at hd
              unfold partsOf
              rw [if_neg hN300]
              cases hb : dec b with
              | none => rfl
              | some x =>
                rw [hb] at hd
                dsimp only at hd ⊢
                rw [hd]
          go_wp2_with fail
          refine (key_any s0 S0 HS0.out a9 l l.length c9 wr rfl hc9 (by omega) HPS HPL HSL HRD9.out).mono ?_
          rintro e w6 ⟨hb6, ⟨hk, ⟨v6, rfl, ho6⟩⟩ | ⟨hk, rfl⟩⟩
          · have HB6 := Lib.hid (HB.out.trans (hb6.mono HB.out.size))
            have hcr6 := (HR.out.below hb6).cell 1
            simp only [List.getElem?_toArray, List.getElem?_cons_zero, List.getElem?_cons_succ] at hcr6
            clear hb6 ho6
            go_wp2
            go_ret3
            exact ⟨HB6.out, .inr ⟨HP.out, rfl⟩⟩
          · have HB6 := Lib.hid (HB.out.trans (hb6.mono HB.out.size))
            have hcr6 := (HR.out.below hb6).cell 1
            simp only [List.getElem?_toArray, List.getElem?_cons_zero, List.getElem?_cons_succ] at hcr6
            clear hb6
            go_wp2
            go_ret3
            exact ⟨HB6.out, .inr ⟨HP.out, rfl⟩⟩
        | true =>
          have hN0 : N = 0 := by rcases hND with h | h; cases h; exact h
          have HP : Hid (partsOf b = if keyOk s0 l = true ∧ encs (tab s0 :: l) = b then some (s0, l) else none) := by
            show _ = _
            have hd := HD.out
            have hr0 : rest = [] := List.eq_nil_of_length_eq_zero (by rw [HN.out]; exact hN0)
            rcases HTD.out with ⟨_, h⟩ | ⟨h, _⟩
            · rw [h, hr0] at hd
              rcases HF0.out with ⟨_, h2⟩ | ⟨_, h2⟩
              · rw [h2] at hd
                dsimp only at hd
                unfold partsOf
                rw [if_neg hN300, h2]
                dsimp only
                rw [hd]
                simp [decs]
              · rw [h2] at hd
                simp [decs] at hd
            · cases h
          go_wp2_with fail
          refine (key_any s0 S0 HS0.out a9 l l.length c9 wr rfl hc9 (by omega) HPS HPL HSL HRD9.out).mono ?_
          rintro e w6 ⟨hb6, ⟨hk, ⟨v6, rfl, ho6⟩⟩ | ⟨hk, rfl⟩⟩
          · obtain ⟨a8, c8, rfl, hc8, hrd8⟩ := ho6.rd
            have HB6 := Lib.hid (HB.out.trans (hb6.mono HB.out.size))
            have hcr6 := (HR.out.below hb6).cell 1
            have hct6 := (HTB2.out.below hb6).cells3.1
            simp only [List.getElem?_toArray, List.getElem?_cons_zero, List.getElem?_cons_succ] at hcr6
            have HO6 := Lib.hid (own_keptx HO.out hb6 (Nat.le_refl _))
            have HR8 := Lib.hid hrd8
            have HBB : Hid (RdB w6 a b) := RdB.mono HRB.out (HB6.out)
            have HEQ := bequal_any a8 a (encs (tab s0 :: l)) b _ c8 n cap w6 rfl hn.out hrd8 HBB.out
            obtain ⟨d, hd⟩ : ∃ d, decide (encs (tab s0 :: l) = b) = d := ⟨_, rfl⟩
            rw [hd] at HEQ
            have HEQ2 := Lib.hid HEQ
            have HDD := Lib.hid hd
            obtain ⟨L, hL⟩ : ∃ L, (encs (tab s0 :: l)).length = L := ⟨_, rfl⟩
            rw [hL] at HEQ2 hc8 ⊢
            have HTB6 := Lib.hid (HTB2.out.below hb6)
            clear hb6 ho6 hrd8 HEQ hd hL
            go_wp2_with fail
            refine (HEQ2.out).mono ?_
            rintro e w7 ⟨rfl, hb7⟩
            have HB7 := Lib.hid (HB6.out.trans (hb7.mono HB6.out.size))
            have hct7 := (HTB6.out.below hb7).cells3.1
            have HO7 := Lib.hid (own_keptx HO6.out hb7 (Nat.le_refl _))
            clear hb7
            cases d with
            | true =>
              have HP2 : Hid (partsOf b = some (s0, l)) := by show _ = _; rw [HP.out, if_pos ⟨hk, of_decide_eq_true HDD.out⟩]
              go_wp2
              go_ret3
              exact ⟨HB7.out, .inl ⟨s0, l, _, HP2.out, by rw [HS0.out]; rfl, own_basex HO7.out (by omega)⟩⟩
            | false =>
              have HP2 : Hid (partsOf b = none) := by show _ = _; rw [HP.out, if_neg (fun h => of_decide_eq_false HDD.out h.2)]
              go_wp2
              go_ret3
              exact ⟨HB7.out, .inr ⟨HP2.out, rfl⟩⟩
          · have HP2 : Hid (partsOf b = none) := by show _ = _; rw [HP.out, if_neg (fun h => by rw [hk] at h; cases h.1)]
            have HB6 := Lib.hid (HB.out.trans (hb6.mono HB.out.size))
            have hcr6 := (HR.out.below hb6).cell 1
            simp only [List.getElem?_toArray, List.getElem?_cons_zero, List.getElem?_cons_succ] at hcr6
            clear hb6
            go_wp2
            go_ret3
            exact ⟨HB6.out, .inr ⟨HP2.out, rfl⟩⟩
end Go.Proofs.YtlchnfjbcefkoaaGreat
