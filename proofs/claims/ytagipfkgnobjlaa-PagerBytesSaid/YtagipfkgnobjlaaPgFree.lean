/- frees: the pages on the chain of free ones; taken. -/
import Derived.Test.YtagipfkgnobjlaaPgBytes
namespace Go.Proofs.Ytagipfkgnobjlaa
open Go.RowKit

attribute [local go_sem] Oper.semAt_some
/-- The page that a free page tells as the next one. -/
noncomputable def nxP (n : Nat) (s : PS) (k : Nat) : Nat := leB ((bytesP n s k).take 4)
def chainF (nx : Nat → Nat) (cnt : Nat) : Nat → Nat → List Nat → List Nat
  | 0, _, acc => acc
  | f + 1, a, acc => if 0 < a ∧ a < cnt ∧ a ∉ acc then chainF nx cnt f (nx a) (acc ++ [a]) else acc
noncomputable def freeL (n : Nat) (s : PS) : List Nat := chainF (nxP n s) s.now.count s.now.count s.now.free []
def setF (l : List Nat) (z : Int) : Option Value := if l.any (fun k => decide ((k : Int) = z)) = true then some (.bool true) else none
theorem any_iff (l : List Nat) (k : Nat) : l.any (fun j => decide ((j : Int) = (k : Int))) = true ↔ k ∈ l := by
  rw [List.any_eq_true]
  constructor
  · rintro ⟨j, hj, e⟩
    have : (j : Int) = (k : Int) := by simpa using e
    have : j = k := by omega
    subst this
    exact hj
  · exact fun h => ⟨k, h, by simp⟩
theorem setF_yes {l : List Nat} {k : Nat} (h : k ∈ l) : setF l (k : Int) = some (.bool true) := by unfold setF; rw [if_pos ((any_iff l k).2 h)]
theorem setF_no {l : List Nat} {k : Nat} (h : k ∉ l) : setF l (k : Int) = none := by unfold setF; rw [if_neg fun e => h ((any_iff l k).1 e)]
theorem setF_add (l : List Nat) (k : Nat) : setF (l ++ [k]) = fun z => if z = (k : Int) then some (.bool true) else setF l z := by
  funext z
  unfold setF
  rw [List.any_append]
  by_cases hz : z = (k : Int)
  · subst hz
    simp
  · rw [if_neg hz]
    have : ([k].any fun j => decide ((j : Int) = z)) = false := by
      simp only [List.any_cons, List.any_nil, Bool.or_false, decide_eq_false_iff_not]
      exact fun e => hz e.symm
    rw [this, Bool.or_false]
theorem setF_nil : setF [] = fun _ => none := by funext z; rfl
/-- How many numbers below cnt are not in it. -/
def mS (cnt : Nat) (f : Int → Option Value) : Nat := ((List.range cnt).filter (fun (k : Nat) => (f (k : Int)).isNone)).length
theorem flt_le (p q : Nat → Bool) (h : ∀ x, q x = true → p x = true) : ∀ l : List Nat, (l.filter q).length ≤ (l.filter p).length
  | [] => Nat.le_refl _
  | x :: l => by
    have ih := flt_le p q h l
    by_cases hq : q x = true
    · rw [List.filter_cons_of_pos hq, List.filter_cons_of_pos (h x hq), List.length_cons, List.length_cons]; omega
    · rw [List.filter_cons_of_neg hq]
      by_cases hp : p x = true
      · rw [List.filter_cons_of_pos hp, List.length_cons]; omega
      · rw [List.filter_cons_of_neg hp]; exact ih
theorem flt_lt (p q : Nat → Bool) (h : ∀ x, q x = true → p x = true) (a : Nat) (hp : p a = true) (hq : ¬ q a = true) : ∀ l : List Nat, a ∈ l → (l.filter q).length < (l.filter p).length
  | [], ha => absurd ha (by simp)
  | x :: l, ha => by
    have ih := flt_lt p q h a hp hq l
    have il := flt_le p q h l
    by_cases hx : x = a
    · subst hx
      rw [List.filter_cons_of_neg hq, List.filter_cons_of_pos hp, List.length_cons]; omega
    · have hl : a ∈ l := by
        rcases List.mem_cons.1 ha with e | e
        · exact absurd e.symm hx
        · exact e
      have := ih hl
      by_cases hq2 : q x = true
      · rw [List.filter_cons_of_pos hq2, List.filter_cons_of_pos (h x hq2), List.length_cons, List.length_cons]; omega
      · rw [List.filter_cons_of_neg hq2]
        by_cases hp2 : p x = true
        · rw [List.filter_cons_of_pos hp2, List.length_cons]; omega
        · rw [List.filter_cons_of_neg hp2]; exact this
theorem mS_add (cnt : Nat) (l : List Nat) (a : Nat) (h : a < cnt) (hn : a ∉ l) : mS cnt (setF (l ++ [a])) < mS cnt (setF l) := by
  refine flt_lt _ _ (fun x hx => ?_) a ?_ ?_ _ (List.mem_range.2 h)
  · by_cases hm : x ∈ l
    · rw [setF_yes (List.mem_append_left _ hm)] at hx
      exact absurd hx (by simp)
    · rw [setF_no hm]; rfl
  · rw [setF_no hn]; rfl
  · rw [setF_yes (List.mem_append_right _ (by simp))]; simp
theorem mapR_uniq {w : World} {r : Nat} {f f' : Int → Option Value} (h : MapR w r intV f) (h' : MapR w r intV f') : f = f' := by
  obtain ⟨es, c, h1, h2⟩ := h
  obtain ⟨es', c', h1', h2'⟩ := h'
  rw [h1] at h1'
  cases h1'
  have key : ∀ {g g' : Int → Option Value}, MapF intV c es.toList g → MapF intV c es.toList g' → ∀ k v, g k = some v → g' k = some v := fun {g g'} q q' k v hv => by
    obtain ⟨e, he, hk⟩ := q.all k v hv
    obtain ⟨k1, e1, e2⟩ := q.key e he
    obtain ⟨k2, e3, e4⟩ := q'.key e he
    have : k1 = k := keyI.inj _ _ (e1.symm.trans hk)
    subst this
    have : k2 = k1 := keyI.inj _ _ (e3.symm.trans e1)
    subst this
    rw [e2] at hv
    rw [e4, hv]
  funext k
  cases hf : f k with
  | some v => exact (key h2 h2' k v hf).symm
  | none =>
    cases hf' : f' k with
    | none => rfl
    | some v => rw [key h2' h2 k v hf'] at hf; cases hf
open Classical in
noncomputable def mW (cnt g : Nat) (w : World) : Nat := if h : ∃ f, MapR w g intV f then mS cnt h.choose else 0
theorem mW_eq {cnt g : Nat} {w : World} {f : Int → Option Value} (h : MapR w g intV f) : mW cnt g w = mS cnt f := by
  have hx : ∃ f, MapR w g intV f := ⟨f, h⟩
  unfold mW
  rw [dif_pos hx, mapR_uniq hx.choose_spec h]
theorem chainF_stop {nx : Nat → Nat} {cnt a : Nat} {acc : List Nat} (h : ¬ (0 < a ∧ a < cnt ∧ a ∉ acc)) (f : Nat) : chainF nx cnt f a acc = acc := by
  cases f with
  | zero => rfl
  | succ f => unfold chainF; rw [if_neg h]
theorem zboolI (w : World) : (zeroValue 4).run Try.prog w = .ok (.bool false) w := by kernel_rfl
set_option maxRecDepth 100000 in
set_option maxHeartbeats 2000000 in
theorem pgfrees_any (b0 : Nat) (w : World) (F : Nat → Prop) (pb d size n room : Nat) (s : PS) (h : PgA b0 w F pb d size n room s) (hc : s.now.count ≤ room) :
    Calls Try.prog 62 #[.pointer (some ⟨pb, 0, none⟩)] w fun e w' => ∃ r, e = .returned (.map (some r)) ∧ w.heap.size ≤ r ∧ MapR w' r intV (setF (freeL n s)) ∧ Below w.heap.size w w' := by
  have HB := Lib.hid (fun W (hW : Below w.heap.size w W) k (hk : k < room) => pgbytes_any b0 W F pb d size n room s (by obtain ⟨T, U, lb, m, f, h⟩ := h; exact ⟨T, U, lb, m, f, h.later hW⟩) k hk)
  have HLN : Hid (∀ k, (bytesP n s k).length = 1024) := by obtain ⟨T, U, lb, m, f, h⟩ := h; exact Lib.hid fun k => bytesP_len h k
  obtain ⟨c4, c5⟩ : w.cell? ⟨pb, 4, none⟩ = some (.int .i64 (s.now.count : Int)) ∧ w.cell? ⟨pb, 5, none⟩ = some (.int .i64 (s.now.free : Int)) := by
    obtain ⟨T, U, lb, m, f, h⟩ := h
    obtain ⟨c0, c1, c2, c3, c4, c5, c6, c26, c27, c28⟩ := h.row.cells
    exact ⟨c4, c5⟩
  obtain ⟨K, hK⟩ : ∃ K : Ending → World → Prop, (fun (e : Ending) (w' : World) => ∃ r, e = .returned (.map (some r)) ∧ w.heap.size ≤ r ∧ MapR w' r intV (setF (freeL n s)) ∧ Below w.heap.size w w') = K := ⟨_, rfl⟩
  have HK : Hid (∀ r w', w.heap.size ≤ r → MapR w' r intV (setF (freeL n s)) → Below w.heap.size w w' → K (.returned (.map (some r))) w') := Lib.hid fun r w' h1 h2 h3 => by rw [← hK]; exact ⟨r, rfl, h1, h2, h3⟩
  rw [hK]
  clear hK
  have HL : Hid (chainF (nxP n s) s.now.count s.now.count s.now.free [] = freeL n s) := Lib.hid rfl
  obtain ⟨L, hL⟩ : ∃ L, freeL n s = L := ⟨_, rfl⟩
  rw [hL] at HL HK
  obtain ⟨cnt, hcnt⟩ : ∃ y, s.now.count = y := ⟨_, rfl⟩
  obtain ⟨fr, hfr⟩ : ∃ y, s.now.free = y := ⟨_, rfl⟩
  rw [hcnt] at HL c4 hc
  rw [hfr] at HL c5
  obtain ⟨nx, hnx⟩ : ∃ y, nxP n s = y := ⟨_, rfl⟩
  have HNX : Hid (∀ k, leB ((bytesP n s k).take 4) = nx k) := Lib.hid fun k => by rw [← hnx]; rfl
  rw [hnx] at HL
  obtain ⟨g, hg⟩ : ∃ g, w.heap.size = g := ⟨_, rfl⟩
  obtain ⟨w1, hw1⟩ : ∃ y, w.alloc (.map #[] 0) = y := ⟨_, rfl⟩
  have HB1 : Hid (Below g w w1) := by rw [← hw1, ← hg]; exact below_alloc _
  have HM1 : Hid (MapR w1 g intV (setF [])) := by rw [← hw1, ← hg, setF_nil]; exact MapR.new w
  have HPB : Hid (pb < g) := by rw [← hg]; exact World.block_lt_of_cell? w _ c4
  have HG := Lib.hid hg
  rw [hg] at HK
  clear h hcnt hfr hnx hL
  go_enter Try.func62, Try.ntmps62
  have c41 : w1.cell? ⟨pb, 4, none⟩ = some (.int .i64 (cnt : Int)) := (HB1.out.cell HPB.out).trans c4
  have c51 : w1.cell? ⟨pb, 5, none⟩ = some (.int .i64 (fr : Int)) := (HB1.out.cell HPB.out).trans c5
  go_wp2_with (refine step_makeMapM rfl 102 rfl ?_; intro wq hwq; rw [hw1] at hwq; rw [hg]; subst hwq)
  go_loopw [4] (fun av wr => ∃ (a : Nat) (acc : List Nat) (φ : Nat), av = .int .i64 (a : Int) ∧ chainF nx cnt φ a acc = L ∧ mS cnt (setF acc) ≤ φ ∧ Below g w wr ∧ MapR wr g intV (setF acc)) (fun _ wr => mW cnt g wr)
  case atStart => exact ⟨fr, [], cnt, rfl, HL.out, by unfold mS; exact Nat.le_trans (List.length_filter_le _ _) (by simp), HB1.out, HM1.out⟩
  case round =>
    obtain ⟨a, acc, φ, rfl, hch, hms, hbw, hm⟩ := hrel
    have HBW := Lib.hid hbw
    have HM := Lib.hid hm
    have c4r : wr.cell? ⟨pb, 4, none⟩ = some (.int .i64 (cnt : Int)) := (hbw.cell HPB.out).trans c4
    clear hbw hm c41 c51
    by_cases hgo : 0 < a ∧ a < cnt ∧ a ∉ acc
    · obtain ⟨h0, h1, h2⟩ := hgo
      have HF : Hid ((setF acc (a : Int)).getD (.bool false) = .bool false) := by show _ = _; rw [setF_no h2]; rfl
      have h0I : (0 : Int) < (a : Int) := by omega
      have h1I : (a : Int) < (cnt : Int) := by omega
      have hlt := mS_add cnt acc a h1 h2
      obtain ⟨ψ, rfl⟩ : ∃ ψ, φ = ψ + 1 := ⟨φ - 1, by omega⟩
      have hch2 : chainF nx cnt ψ (nx a) (acc ++ [a]) = L := by
        rw [← hch]
        conv => rhs; unfold chainF
        rw [if_pos ⟨h0, h1, h2⟩]
      have HE : Hid (chainF nx cnt ψ (nx a) (acc ++ [a]) = L ∧ mS cnt (setF (acc ++ [a])) ≤ ψ ∧ mS cnt (setF (acc ++ [a])) < mS cnt (setF acc)) := ⟨hch2, by omega, hlt⟩
      have HA : Hid (a < room) := Nat.lt_of_lt_of_le h1 hc
      clear hch hms hlt hch2 h0 h1 h2
      go_wp2_with (first
        | (refine step_lookup1 keyI Try.underlying102 rfl (.tmp 23) (.tmp 24) rfl HM.out (a : Int) (.bool false) (zboolI _) rfl rfl (.bool false) HF.out ?_)
        | (refine step_updateM keyI Try.underlying102 rfl (.tmp 32) (.tmp 33) (.const (.bool true)) rfl rfl HM.out (a : Int) (.bool true) rfl rfl rfl ?_; intro w2 hg2 hm2; have HG2 := Lib.hid hg2; have HM2 := Lib.hid hm2; clear hg2 hm2))
      have hb2 : Below g w w2 := below_grown HBW.out HG2.out (by rw [← hg]; exact HBW.out.size) (by intro x hx; have := Option.some.inj hx; omega)
      have HB2 := Lib.hid hb2
      clear hb2
      refine (HB.out w2 (by rw [hg]; exact HB2.out) a HA.out).mono ?_
      rintro _ w3 ⟨vb, rfl, ho, hb3⟩
      obtain ⟨ba, bc, rfl, hbc, hbr⟩ := OwnB.rd ho
      rw [HLN.out] at hbc ⊢
      have HB3 := Lib.hid hb3
      have HR3 := Lib.hid hbr
      have HBC := Lib.hid hbc
      clear ho hb3 hbr hbc
      go_wp2_with fail
      refine (pvalue_any w3 ba (bytesP n s a) 1024 bc (HLN.out a).symm (by omega) HR3.out).mono ?_
      rintro _ w4 ⟨rfl, hb4⟩
      rw [HNX.out]
      have HB4 := Lib.hid hb4
      clear hb4
      go_wp2
      have hm4 : MapR w4 g intV (setF (acc ++ [a])) := by
        rw [setF_add]
        exact (HM2.out.same (HB3.out.block g HM2.out.lt)).same (HB4.out.block g (Nat.lt_of_lt_of_le HM2.out.lt HB3.out.size))
      exact ⟨⟨nx a, acc ++ [a], ψ, rfl, HE.out.1, HE.out.2.1, HB2.out.trans ((HB3.out.trans (HB4.out.mono HB3.out.size)).mono (Nat.le_trans (by rw [← hg]; exact (HB2.out).size) (Nat.le_refl _))), hm4⟩, by rw [mW_eq hm4, mW_eq HM.out]; exact HE.out.2.2⟩
    · have hacc : acc = L := by rw [← hch]; exact (chainF_stop hgo φ).symm
      have HEX := Lib.hid (HK.out g wr (Nat.le_refl _) (by rw [← hacc]; exact HM.out) HBW.out)
      clear hch hms hacc HK
      by_cases h0 : 0 < a
      · have h0I : (0 : Int) < (a : Int) := by omega
        by_cases h1 : a < cnt
        · have h1I : (a : Int) < (cnt : Int) := by omega
          have h2 : a ∈ acc := Classical.byContradiction fun h2 => hgo ⟨h0, h1, h2⟩
          have HF : Hid ((setF acc (a : Int)).getD (.bool false) = .bool true) := by show _ = _; rw [setF_yes h2]; rfl
          clear hgo h0 h1 h2
          go_wp2_with (refine step_lookup1 keyI Try.underlying102 rfl (.tmp 23) (.tmp 24) rfl HM.out (a : Int) (.bool false) (zboolI _) rfl rfl (.bool true) HF.out ?_)
          exact HEX.out
        · have h1I : ¬ (a : Int) < (cnt : Int) := by omega
          clear hgo h0 h1
          go_wp2
          exact HEX.out
      · have h0I : ¬ (0 : Int) < (a : Int) := by omega
        clear hgo h0
        go_wp2
        exact HEX.out
/-- A page that may be had. -/
noncomputable def takenB (n : Nat) (s : PS) (x : Int) : Bool := decide (0 < x) && decide (x < (s.now.count : Int)) && (setF (freeL n s) x).isNone
theorem setF_val (l : List Nat) (x : Int) : (setF l x).getD (.bool false) = .bool (!(setF l x).isNone) := by
  unfold setF
  split <;> rfl
set_option maxRecDepth 100000 in
set_option maxHeartbeats 2000000 in
theorem pgtaken_any (b0 : Nat) (w : World) (F : Nat → Prop) (pb d size n room : Nat) (s : PS) (h : PgA b0 w F pb d size n room s) (hc : s.now.count ≤ room) (x : Int) :
    Calls Try.prog 36 #[.pointer (some ⟨pb, 0, none⟩), .int .i64 x] w fun e w' => e = .returned (.bool (takenB n s x)) ∧ Below w.heap.size w w' := by
  have HFR := Lib.hid (pgfrees_any b0 w F pb d size n room s h hc)
  have c4 : w.cell? ⟨pb, 4, none⟩ = some (.int .i64 (s.now.count : Int)) := by
    obtain ⟨T, U, lb, m, f, h⟩ := h
    obtain ⟨c0, c1, c2, c3, c4, c5, c6, c26, c27, c28⟩ := h.row.cells
    exact c4
  obtain ⟨K, hK⟩ : ∃ K : Ending → World → Prop, (fun (e : Ending) (w' : World) => e = .returned (.bool (takenB n s x)) ∧ Below w.heap.size w w') = K := ⟨_, rfl⟩
  obtain ⟨t, ht⟩ : ∃ t, takenB n s x = t := ⟨_, rfl⟩
  have HK : Hid (∀ w', Below w.heap.size w w' → K (.returned (.bool t)) w') := Lib.hid fun w' h3 => by rw [← hK]; exact ⟨by rw [ht], h3⟩
  rw [hK]
  obtain ⟨cnt, hcnt⟩ : ∃ y, s.now.count = y := ⟨_, rfl⟩
  rw [hcnt] at c4
  unfold takenB at ht
  rw [hcnt] at ht
  clear hK h hc hcnt
  by_cases h0 : 0 < x
  · by_cases h1 : x < (cnt : Int)
    · have HV := Lib.hid (setF_val (freeL n s) x)
      have hn : (setF (freeL n s) x).isNone = t := by rw [← ht, decide_eq_true h0, decide_eq_true h1]; rfl
      rw [hn] at HV
      clear ht hn
      go_enter Try.func36, Try.ntmps36
      go_wp2_with fail
      refine HFR.out.mono ?_
      rintro _ w2 ⟨r, rfl, -, hm, hb⟩
      have HM := Lib.hid hm
      have HB := Lib.hid hb
      clear hm hb
      go_wp2_with (refine step_lookup1 keyI Try.underlying102 rfl (.tmp 18) (.tmp 19) rfl HM.out x (.bool false) (zboolI _) rfl rfl (.bool !t) HV.out ?_)
      exact HK.out _ HB.out
    · have : t = false := by rw [← ht, decide_eq_false h1, Bool.and_false]; rfl
      subst this
      clear ht
      go_enter Try.func36, Try.ntmps36
      go_wp2
      exact HK.out _ (Below.refl _ _)
  · have : t = false := by rw [← ht, decide_eq_false h0]; rfl
    subst this
    clear ht
    go_enter Try.func36, Try.ntmps36
    go_wp2
    exact HK.out _ (Below.refl _ _)
set_option maxRecDepth 100000 in
set_option maxHeartbeats 2000000 in
theorem pgget_yes (b0 : Nat) (w : World) (F : Nat → Prop) (pb d size n room : Nat) (s : PS) (h : PgA b0 w F pb d size n room s) (hc : s.now.count ≤ room) (k : Nat) (ht : takenB n s (k : Int) = true) :
    Calls Try.prog 9 #[.pointer (some ⟨pb, 0, none⟩), .int .i64 (k : Int)] w fun e w' => ∃ vb, e = .returned (.tuple #[vb, .int .i64 0]) ∧ OwnB w' w.heap.size 5 vb (bytesP n s k) ∧ Below w.heap.size w w' := by
  have hk : k < room := by
    unfold takenB at ht
    simp only [Bool.and_eq_true, decide_eq_true_eq] at ht
    omega
  have HT := Lib.hid (pgtaken_any b0 w F pb d size n room s h hc (k : Int))
  rw [ht] at HT
  have HB := Lib.hid (fun W (hW : Below w.heap.size w W) => pgbytes_any b0 W F pb d size n room s (by obtain ⟨T, U, lb, m, f, h⟩ := h; exact ⟨T, U, lb, m, f, h.later hW⟩) k hk)
  obtain ⟨c0, -⟩ : w.cell? ⟨pb, 0, none⟩ = some (.pointer (some ⟨d, 0, none⟩)) ∧ True := by
    obtain ⟨T, U, lb, m, f, h⟩ := h
    obtain ⟨c0, c1, c2, c3, c4, c5, c6, c26, c27, c28⟩ := h.row.cells
    exact ⟨c0, trivial⟩
  have HN := Lib.hid (pgnone_any w pb d c0)
  clear h hc ht hk c0
  go_enter Try.func9, Try.ntmps9
  go_wp2_with fail
  refine HN.out.mono ?_
  rintro _ _ ⟨rfl, rfl⟩
  go_wp2_with fail
  refine HT.out.mono ?_
  rintro _ w2 ⟨rfl, hb⟩
  have HB2 := Lib.hid hb
  clear hb
  go_wp2_with fail
  refine (HB.out w2 HB2.out).mono ?_
  rintro _ w3 ⟨vb, rfl, ho, hb3⟩
  have HO := Lib.hid (ho.mono HB2.out.size)
  have HB3 := Lib.hid (HB2.out.trans (hb3.mono HB2.out.size))
  clear ho hb3
  go_wp2
  go_ret2
  exact ⟨_, rfl, HO.out, HB3.out⟩
set_option maxRecDepth 100000 in
set_option maxHeartbeats 2000000 in
theorem pgget_no (b0 : Nat) (w : World) (F : Nat → Prop) (pb d size n room : Nat) (s : PS) (h : PgA b0 w F pb d size n room s) (hc : s.now.count ≤ room) (x : Int) (ht : takenB n s x = false) :
    Calls Try.prog 9 #[.pointer (some ⟨pb, 0, none⟩), .int .i64 x] w fun e w' => e = .returned (.tuple #[.slice none 0 0, .int .i64 4]) ∧ Below w.heap.size w w' := by
  have HT := Lib.hid (pgtaken_any b0 w F pb d size n room s h hc x)
  rw [ht] at HT
  obtain ⟨c0, -⟩ : w.cell? ⟨pb, 0, none⟩ = some (.pointer (some ⟨d, 0, none⟩)) ∧ True := by
    obtain ⟨T, U, lb, m, f, h⟩ := h
    obtain ⟨c0, c1, c2, c3, c4, c5, c6, c26, c27, c28⟩ := h.row.cells
    exact ⟨c0, trivial⟩
  have HN := Lib.hid (pgnone_any w pb d c0)
  clear h hc ht c0
  go_enter Try.func9, Try.ntmps9
  go_wp2_with fail
  refine HN.out.mono ?_
  rintro _ _ ⟨rfl, rfl⟩
  go_wp2_with fail
  refine HT.out.mono ?_
  rintro _ w2 ⟨rfl, hb⟩
  have HB2 := Lib.hid hb
  clear hb
  go_wp2
  go_ret2
  exact ⟨rfl, HB2.out⟩
end Go.Proofs.Ytagipfkgnobjlaa
