/- The document's Order: the answer that the plain law tells. -/
import Derived.Test.YtcakdjnnfonijaaRoDoc
namespace Go.Proofs.Ytcakdjnnfonijaa
open Go.RowKit

/-- A row of links can be read. -/
def LkR (W : World) (b o : Nat) (x : Rf × List Rf) (ta : Option Addr) (tc : Nat) : Prop := CellsAt W rfC b o x.1 ∧ W.cell? ⟨b, o + 2, none⟩ = some (.slice ta x.2.length tc) ∧ RdRf W ta x.2
theorem RdLk.rows {w : World} {a : Option Addr} {ls : List Lk} (h : RdLk w a ls) : ∃ b off, (0 < (plainL ls).length → a = some ⟨b, off, none⟩ ∧ b < w.heap.size) ∧ ∀ k (hk : k < (plainL ls).length), ∃ ta tc, ∀ W, Below w.heap.size w W → LkR W b (off + k * 3) (plainL ls)[k] ta tc := by
  rcases h with h | ⟨b, off, ha, hlt, hi⟩
  · subst h
    exact ⟨0, 0, fun h => absurd h (by simp [plainL]), fun k hk => absurd hk (by simp [plainL])⟩
  · refine ⟨b, off, fun _ => ⟨ha, hlt⟩, fun k hk => ?_⟩
    have hk' : k < ls.length := by simpa [plainL] using hk
    refine ⟨ls[k].ta, ls[k].tc, fun W hW => ?_⟩
    have h1 := (hi k hk').cells.later hW hlt
    have e : (plainL ls)[k] = (ls[k].fr, ls[k].ts) := by simp [plainL]
    rw [e]
    refine ⟨fun j v hv => h1 j v ?_, h1 2 _ rfl, (hi k hk').ok.rd.later hW⟩
    match j, hv with
    | 0, hv => exact hv
    | 1, hv => exact hv
theorem take_succ_map {α β : Type} {L : List α} {k : Nat} (hk : k < L.length) (f : α → β) : (L.take (k + 1)).map f = (L.take k).map f ++ [f L[k]] := by
  rw [← List.take_append_getElem hk, List.map_append]; rfl
theorem mem_take_succ {α : Type} {L : List α} {k : Nat} (hk : k < L.length) (x : α) : x ∈ L.take (k + 1) ↔ x ∈ L.take k ∨ x = L[k] := by
  rw [← List.take_append_getElem hk, List.mem_append, List.mem_singleton]
theorem fold_succ {α β : Type} {L : List α} {k : Nat} (hk : k < L.length) (f : β → α → β) (z : β) : (L.take (k + 1)).foldl f z = f ((L.take k).foldl f z) L[k] := by
  rw [← List.take_append_getElem hk, List.foldl_append]; rfl
theorem all_succ {α : Type} {L : List α} {k : Nat} (hk : k < L.length) (f : α → Bool) : (L.take (k + 1)).all f = ((L.take k).all f && f L[k]) := by
  rw [← List.take_append_getElem hk, List.all_append]; simp
/-- The place of the best so far. -/
def BestAt (L : List (Rf × List Rf)) (b : Option Rf) (bz : Int) : Prop := (b = none ∧ bz = -1) ∨ ∃ (q : Nat) (v : Rf), b = some v ∧ bz = (q : Int) ∧ ∃ h : q < L.length, L[q].1 = v
def lenV : Value → Nat
  | .slice _ m _ => m
  | _ => 0
/-- What Order hands back. -/
def OrdEnd (L : List (Rf × List Rf)) (w : World) (e : Ending) (w' : World) : Prop := ∃ oa oc, e = .returned (.tuple #[.slice oa (ordR ltR L).1.length oc, .int .i64 (ordR ltR L).2]) ∧ RdRf w' oa (ordR ltR L).1 ∧ Below w.heap.size w w'
theorem OrdEnd.err {L : List (Rf × List Rf)} {w w' : World} {z : Int} (h : ordR ltR L = ([], z)) (hb : Below w.heap.size w w') : OrdEnd L w (.returned (.tuple #[.slice none 0 0, .int .i64 z])) w' := by
  unfold OrdEnd
  rw [h]
  exact ⟨none, 0, rfl, .inl rfl, hb⟩
set_option maxRecDepth 100000 in
set_option maxHeartbeats 4000000 in
theorem docorder_any (a : Option Addr) (n c : Nat) (L : List (Rf × List Rf)) (w : World) (b off : Nat) (hl : L.length = n) (hb : n ≤ 40) (hts : ∀ x ∈ L, x.2.length ≤ 100) (ha : 0 < L.length → a = some ⟨b, off, none⟩ ∧ b < w.heap.size) (hrows : ∀ k (hk : k < L.length), ∃ ta tc, ∀ W, Below w.heap.size w W → LkR W b (off + k * 3) L[k] ta tc) :
    Calls Try.prog 7 #[.slice a n c] w (OrdEnd L w) := by
  have HLN := Lib.hid hl
  have HTS := Lib.hid hts
  have HA := Lib.hid ha
  have HROWS := Lib.hid hrows
  have HEND : Hid (∀ W z, ordR ltR L = ([], z) → Below w.heap.size w W → OrdEnd L w (.returned (.tuple #[.slice none 0 0, .int .i64 z])) W) := fun W z => OrdEnd.err
  have HENDV : Hid (∀ W oa oc out, ordR ltR L = (out, 0) → RdRf W oa out → Below w.heap.size w W → OrdEnd L w (.returned (.tuple #[.slice oa out.length oc, .int .i64 0])) W) := fun W oa oc out h1 h2 h3 => by
    unfold OrdEnd
    rw [h1]
    exact ⟨oa, oc, rfl, h2, h3⟩
  obtain ⟨K, hK⟩ : ∃ K, OrdEnd L w = K := ⟨_, rfl⟩
  rw [hK] at HEND HENDV ⊢
  clear hl hts ha hrows hK
  go_enter Try.func7, Try.ntmps7
  go_wp2
  go_loopw [4, 5] (fun lg i wr => ∃ (k : Nat) (lb : Bool), lg = .bool lb ∧ i = .int .i64 (k : Int) ∧ k ≤ n ∧ goodL L k ∧ (lb = true ↔ ∃ x ∈ L.take k, tgt x.2 = 3) ∧ Below w.heap.size w wr) (fun _ i _ => n - (intOf i).toNat)
  case atStart => exact ⟨0, false, rfl, rfl, Nat.zero_le _, goodL_zero L, by simp, Below.refl _ _⟩
  case round =>
    obtain ⟨i, lb, rfl, rfl, hi, hgl, hlb, hbr⟩ := hrel
    have HGL := Lib.hid hgl
    have HLB := Lib.hid hlb
    have HBR := Lib.hid hbr
    clear hgl hlb hbr
    by_cases hin : i < n
    · as_aux_lemma =>
      obtain ⟨ha, hbs⟩ := HA.out (by rw [HLN.out]; omega)
      subst ha
      obtain ⟨ta, tc, hrow⟩ := HROWS.out i (by rw [HLN.out]; omega)
      obtain ⟨x, hx⟩ : ∃ x, L[i]'(by rw [HLN.out]; omega) = x := ⟨_, rfl⟩
      rw [hx] at hrow
      have HX : Hid (∃ h : i < L.length, L[i] = x) := ⟨_, hx⟩
      have HROW := Lib.hid hrow
      obtain ⟨m, hm⟩ : ∃ m, x.2.length = m := ⟨_, rfl⟩
      have hmb : m ≤ 100 := by rw [← hm, ← hx]; exact HTS.out _ (List.getElem_mem _)
      have HM := Lib.hid hm
      clear hrow hx hm
      obtain ⟨c1, c2, c3⟩ := HROW.out wr HBR.out
      rw [HM.out] at c2
      have HTG := Lib.hid (doctgt_any ta m tc x.2 wr HM.out (by omega) c3)
      obtain ⟨e, he⟩ : ∃ e, tgt x.2 = e := ⟨_, rfl⟩
      have HE := Lib.hid he
      have hein : e = 0 ∨ e = 2 ∨ e = 3 := by rw [← he]; exact tgt_in _
      rw [he] at HTG
      obtain ⟨rr, hrr⟩ : ∃ r, rightR x.1 = r := ⟨_, rfl⟩
      have HRR := Lib.hid hrr
      have HRG : Hid (∀ W, Calls Try.prog 33 #[.agg #[.string x.1.1, .int .i64 x.1.2]] W fun e w' => e = .returned (.bool rr) ∧ Below W.heap.size W w') := fun W => by rw [← hrr]; exact docright_any x.1 W
      clear c1 c3 he hrr
      by_cases hbad : rr = false ∨ e = 2
      · have HE2 : Hid (ordR ltR L = ([], 2)) := ordR_arg (by
          obtain ⟨h, e1⟩ := HX.out
          refine goodL_not h ?_
          rw [e1]
          rcases hbad with h | h
          · exact .inl (by rw [HRR.out, h])
          · exact .inr (.inl (by rw [HE.out, h])))
        rcases Bool.eq_false_or_eq_true rr with hr1 | hr1
        · subst hr1
          have he2 : e = 2 := by simpa using hbad
          subst he2
          clear hbad hein
          go_wp2_with (first
            | (go_at_call 32; refine HTG.out.mono ?_; rintro _ w2 ⟨rfl, hb2⟩; have HB2 := Lib.hid (below_trans HBR.out hb2); clear hb2)
            | (refine step_loadRf rfl (.tmp 32) rfl (HROW.out _ HB2.out).1 rfl ?_)
            | (go_at_call 33; refine (HRG.out _).mono ?_; rintro _ w3 ⟨rfl, hb3⟩; have HB3 := Lib.hid (below_trans HB2.out hb3); clear hb3))
          exact HEND.out _ _ HE2.out HB3.out
        · subst hr1
          clear hbad
          go_wp2_with (first
            | (go_at_call 32; refine HTG.out.mono ?_; rintro _ w2 ⟨rfl, hb2⟩; have HB2 := Lib.hid (below_trans HBR.out hb2); clear hb2)
            | (refine step_loadRf rfl (.tmp 32) rfl (HROW.out _ HB2.out).1 rfl ?_)
            | (go_at_call 33; refine (HRG.out _).mono ?_; rintro _ w3 ⟨rfl, hb3⟩; have HB3 := Lib.hid (below_trans HB2.out hb3); clear hb3))
          exact HEND.out _ _ HE2.out HB3.out
      · have hr1 : rr = true := by
          rcases Bool.eq_false_or_eq_true rr with h | h
          · exact h
          · exact absurd (.inl h) hbad
        have he2 : e ≠ 2 := fun h => hbad (.inr h)
        subst hr1
        have hne2 : (e == 2) = false := by simpa using he2
        obtain ⟨lb2, hlb2⟩ : ∃ l, (lb || (e == 3)) = l := ⟨_, rfl⟩
        have HLB2 : Hid (lb2 = true ↔ ∃ y ∈ L.take (i + 1), tgt y.2 = 3) := by
          obtain ⟨h, e1⟩ := HX.out
          show _ ↔ _
          rw [← hlb2, Bool.or_eq_true, HLB.out]
          constructor
          · rintro (⟨y, hy, hy2⟩ | h3)
            · exact ⟨y, (mem_take_succ h y).2 (.inl hy), hy2⟩
            · exact ⟨x, (mem_take_succ h x).2 (.inr e1.symm), by rw [HE.out]; simpa using h3⟩
          · rintro ⟨y, hy, hy2⟩
            rcases (mem_take_succ h y).1 hy with hy | hy
            · exact .inl ⟨y, hy, hy2⟩
            · right
              rw [hy, e1, HE.out] at hy2
              simp [hy2]
        clear hbad
        go_upto_region 8 with (first
            | (go_at_call 32; refine HTG.out.mono ?_; rintro _ w2 ⟨rfl, hb2⟩; have HB2 := Lib.hid (below_trans HBR.out hb2); clear hb2)
            | (refine step_loadRf rfl (.tmp 32) rfl (HROW.out _ HB2.out).1 rfl ?_)
            | (go_at_call 33; refine (HRG.out _).mono ?_; rintro _ w3 ⟨rfl, hb3⟩; have HB3 := Lib.hid (below_trans HB2.out hb3); clear hb3))
        go_cut [4] (fun lv wx => lv = .bool lb2 ∧ wx = w3)
        case first =>
          as_aux_lemma =>
          obtain ⟨b3, hb3⟩ : ∃ x, (e == 3) = x := ⟨_, rfl⟩
          rw [hb3] at hlb2
          cases lb with
          | true =>
            have h2 : true = lb2 := by rw [← hlb2]; simp
            clear hlb2
            go_wp2
            go_meet
            exact ⟨by rw [← h2], rfl⟩
          | false =>
            have h2 : b3 = lb2 := by rw [← hlb2]; simp
            clear hlb2
            go_wp2
            go_meet
            exact ⟨by rw [← h2], rfl⟩
        case rest =>
          obtain ⟨rfl, rfl⟩ := hcut
          clear HTG HRG HBR HLB
          go_wp2
          go_loopw [7] (fun j wr => ∃ k : Nat, j = .int .i64 (k : Int) ∧ k ≤ i ∧ x.1 ∉ (L.take k).map (·.1) ∧ Below w.heap.size w wr) (fun j _ => i - (intOf j).toNat)
          case atStart => exact ⟨0, rfl, Nat.zero_le _, by simp, HB3.out⟩
          case round =>
            obtain ⟨k, rfl, hk, hni, hbk⟩ := hrel
            have HNI := Lib.hid hni
            have HBK := Lib.hid hbk
            rename World => wk
            clear hni hbk
            by_cases hki : k < i
            · have hkn : k < n := by omega
              obtain ⟨ty, tyc, hrow2⟩ := HROWS.out k (by rw [HLN.out]; omega)
              obtain ⟨y, hx2⟩ : ∃ x, L[k]'(by rw [HLN.out]; omega) = x := ⟨_, rfl⟩
              rw [hx2] at hrow2
              have HX2 : Hid (∃ h : k < L.length, L[k] = y) := ⟨_, hx2⟩
              have HROW2 := Lib.hid hrow2
              obtain ⟨my, hm2⟩ : ∃ m, y.2.length = m := ⟨_, rfl⟩
              have hmb2 : my ≤ 100 := by rw [← hm2, ← hx2]; exact HTS.out _ (List.getElem_mem _)
              have HM2 := Lib.hid hm2
              clear hrow2 hx2 hm2
              obtain ⟨d1, d2⟩ := rf_cells (HROW2.out wk HBK.out).1
              obtain ⟨d3, d4⟩ := rf_cells (HROW.out wk HBK.out).1
              have hS0 : wk.drew.cell? ⟨b, off + k * 3, none⟩ = some (.string y.1.1) ∧ wk.drew.cell? ⟨b, off + k * 3 + 1, none⟩ = some (.int .i64 y.1.2) ∧ wk.drew.cell? ⟨b, off + i * 3, none⟩ = some (.string x.1.1) ∧ wk.drew.cell? ⟨b, off + i * 3 + 1, none⟩ = some (.int .i64 x.1.2) := ⟨d1, d2, d3, d4⟩
              obtain ⟨q, hq⟩ : ∃ q, decide (y.1 = x.1) = q := ⟨_, rfl⟩
              have HQ := Lib.hid hq
              clear d1 d2 d3 d4 hq
              go_upto_region 12 with fail
              refine wp_region_held_drew (S := fun w' => w'.cell? ⟨b, off + k * 3, none⟩ = some (.string y.1.1) ∧ w'.cell? ⟨b, off + k * 3 + 1, none⟩ = some (.int .i64 y.1.2) ∧ w'.cell? ⟨b, off + i * 3, none⟩ = some (.string x.1.1) ∧ w'.cell? ⟨b, off + i * 3 + 1, none⟩ = some (.int .i64 x.1.2)) (by kernel_rfl) hS0 (fun hHeld => ?_)
              refine wpAnyH_take (i := 0) (v := ?_) rfl (by kernel_rfl) (by kernel_rfl) (by kernel_rfl) (fun _ _ _ h => h) (Or.inl ⟨by rfl, ?_⟩) hHeld ?_
              rotate_left
              · intro w' hS'
                (try dsimp only at hS')
                go_simp
                try with_reducible rfl
              try simp only [List.getElem_toArray, List.getElem_cons_zero, Act.put, List.setIfInBounds_toArray, List.set_cons_zero, List.set_cons_succ]
              refine wpAnyH_take (i := 1) (v := ?_) rfl (by kernel_rfl) (by kernel_rfl) (by kernel_rfl) (fun _ _ _ h => h) (Or.inl ⟨by rfl, ?_⟩) hHeld ?_
              rotate_left
              · intro w' hS'
                (try dsimp only at hS')
                go_simp
                try with_reducible rfl
              try simp only [List.getElem_toArray, List.getElem_cons_succ, List.getElem_cons_zero, Act.put, List.setIfInBounds_toArray, List.set_cons_zero, List.set_cons_succ]
              refine wpAnyH_take (i := 2) (v := ?_) rfl (by kernel_rfl) (by kernel_rfl) (by kernel_rfl) (fun _ _ _ h => h) (Or.inl ⟨by rfl, ?_⟩) hHeld ?_
              rotate_left
              · intro w' hS'
                (try dsimp only at hS')
                go_simp
                try with_reducible rfl
              try simp only [List.getElem_toArray, List.getElem_cons_succ, List.getElem_cons_zero, Act.put, List.setIfInBounds_toArray, List.set_cons_zero, List.set_cons_succ]
              refine wpAnyH_take (i := 3) (v := ?_) rfl (by kernel_rfl) (by kernel_rfl) (by kernel_rfl) (fun _ _ _ h => h) (Or.inl ⟨by rfl, ?_⟩) hHeld ?_
              rotate_left
              · intro w' hS'
                (try dsimp only at hS')
                go_simp
                try with_reducible rfl
              try simp only [List.getElem_toArray, List.getElem_cons_succ, List.getElem_cons_zero, Act.put, List.setIfInBounds_toArray, List.set_cons_zero, List.set_cons_succ]
              refine wpAnyH_take (i := 4) (v := ?_) rfl (by kernel_rfl) (by kernel_rfl) (by kernel_rfl) (fun _ _ _ h => h) (Or.inl ⟨by rfl, ?_⟩) hHeld ?_
              rotate_left
              · intro w' hS'
                (try dsimp only at hS')
                go_simp
                try with_reducible rfl
              try simp only [List.getElem_toArray, List.getElem_cons_succ, List.getElem_cons_zero, Act.put, List.setIfInBounds_toArray, List.set_cons_zero, List.set_cons_succ]
              refine wpAnyH_take (i := 5) (v := ?_) rfl (by kernel_rfl) (by kernel_rfl) (by kernel_rfl) (fun _ _ _ h => h) (Or.inl ⟨by rfl, ?_⟩) hHeld ?_
              rotate_left
              · intro w' hS'
                (try dsimp only at hS')
                go_simp
                try with_reducible rfl
              try simp only [List.getElem_toArray, List.getElem_cons_succ, List.getElem_cons_zero, Act.put, List.setIfInBounds_toArray, List.set_cons_zero, List.set_cons_succ]
              refine wpAnyH_take (i := 6) (v := ?_) rfl (by kernel_rfl) (by kernel_rfl) (by kernel_rfl) (fun _ _ _ h => h) (Or.inl ⟨by rfl, ?_⟩) hHeld ?_
              rotate_left
              · intro w' hS'
                (try dsimp only at hS')
                go_simp
                try with_reducible rfl
              try simp only [List.getElem_toArray, List.getElem_cons_succ, List.getElem_cons_zero, Act.put, List.setIfInBounds_toArray, List.set_cons_zero, List.set_cons_succ]
              refine wpAnyH_take (i := 7) (v := ?_) rfl (by kernel_rfl) (by kernel_rfl) (by kernel_rfl) (fun _ _ _ h => h) (Or.inl ⟨by rfl, ?_⟩) hHeld ?_
              rotate_left
              · intro w' hS'
                (try dsimp only at hS')
                go_simp
                try with_reducible rfl
              try simp only [List.getElem_toArray, List.getElem_cons_succ, List.getElem_cons_zero, Act.put, List.setIfInBounds_toArray, List.set_cons_zero, List.set_cons_succ]
              refine wpAnyH_take (i := 8) (v := ?_) rfl (by kernel_rfl) (by kernel_rfl) (by kernel_rfl) (fun _ _ _ h => h) (Or.inl ⟨by rfl, ?_⟩) hHeld ?_
              rotate_left
              · intro w' hS'
                (try dsimp only at hS')
                go_simp
                try with_reducible rfl
              try simp only [List.getElem_toArray, List.getElem_cons_succ, List.getElem_cons_zero, Act.put, List.setIfInBounds_toArray, List.set_cons_zero, List.set_cons_succ]
              refine wpAnyH_take (i := 9) (v := ?_) rfl (by kernel_rfl) (by kernel_rfl) (by kernel_rfl) (fun _ _ _ h => h) (Or.inl ⟨by rfl, ?_⟩) hHeld ?_
              rotate_left
              · intro w' hS'
                (try dsimp only at hS')
                go_simp
                try with_reducible rfl
              try simp only [List.getElem_toArray, List.getElem_cons_succ, List.getElem_cons_zero, Act.put, List.setIfInBounds_toArray, List.set_cons_zero, List.set_cons_succ]
              refine wpAnyH_take (i := 10) (v := _) rfl (by kernel_rfl) (by kernel_rfl) (by kernel_rfl) (fun _ _ _ h => h) (yieldsIf_eqlRf (S := fun w' => w'.cell? ⟨b, off + k * 3, none⟩ = some (.string y.1.1) ∧ w'.cell? ⟨b, off + k * 3 + 1, none⟩ = some (.int .i64 y.1.2) ∧ w'.cell? ⟨b, off + i * 3, none⟩ = some (.string x.1.1) ∧ w'.cell? ⟨b, off + i * 3 + 1, none⟩ = some (.int .i64 x.1.2)) (by rfl) (.tmp 54) (.tmp 59) rfl y.1 x.1 rfl rfl q HQ.out) hHeld ?_
              try simp only [List.getElem_toArray, List.getElem_cons_succ, List.getElem_cons_zero, Act.put, List.setIfInBounds_toArray, List.set_cons_zero, List.set_cons_succ]
              refine wpAnyH_done (by kernel_rfl) ?_ _
              have HBD := Lib.hid (drewN_below HBK.out 1)
              cases q with
              | true =>
                have HE2 : Hid (ordR ltR L = ([], 2)) := ordR_arg (by
                  obtain ⟨h, e1⟩ := HX.out
                  obtain ⟨h2, e2⟩ := HX2.out
                  refine goodL_not h (.inr (.inr ?_))
                  rw [e1, ← of_decide_eq_true HQ.out, ← e2]
                  exact List.mem_map_of_mem (List.mem_iff_getElem.2 ⟨k, by rw [List.length_take]; omega, by rw [List.getElem_take]⟩))
                go_wp2
                exact HEND.out _ _ HE2.out HBD.out
              | false =>
                have HN : Hid (x.1 ∉ (L.take (k + 1)).map (·.1)) := Lib.hid fun hm => by
                  obtain ⟨h2, e2⟩ := HX2.out
                  rw [take_succ_map h2, List.mem_append, List.mem_singleton] at hm
                  rcases hm with hm | hm
                  · exact HNI.out hm
                  · exact of_decide_eq_false HQ.out (by rw [hm, e2])
                go_wp2
                exact ⟨⟨k + 1, by go_num, hki, HN.out, HBD.out⟩, by show i - ((k : Int) + 1).toNat < i - (k : Int).toNat; omega⟩
            · have hk' : k = i := by omega
              subst hk'
              have HG2 : Hid (goodL L (k + 1)) := by
                obtain ⟨h, e1⟩ := HX.out
                exact goodL_succ h HGL.out (by rw [e1]; exact HRR.out) (by rw [e1, HE.out]; exact he2) (by rw [e1]; exact HNI.out)
              go_wp2
              exact ⟨⟨k + 1, lb2, rfl, by go_num, hin, HG2.out, HLB2.out, HBK.out⟩, by show n - ((k : Int) + 1).toNat < n - (k : Int).toNat; omega⟩
    · have hin' : i = n := by omega
      subst hin'
      have HGA : Hid (goodL L L.length) := by rw [HLN.out]; exact HGL.out
      have HLA : Hid (lb = true ↔ ∃ x ∈ L, tgt x.2 = 3) := by
        have := HLB.out
        rw [← HLN.out, List.take_length] at this
        exact this
      clear HGL HLB
      cases lb with
      | true =>
        have HE2 : Hid (ordR ltR L = ([], 3)) := ordR_long HGA.out (HLA.out.1 rfl)
        go_wp2
        exact HEND.out _ _ HE2.out HBR.out
      | false =>
        have HNL : Hid (¬ ∃ x ∈ L, tgt x.2 = 3) := Lib.hid fun h => by have := HLA.out.2 h; cases this
        clear HLA
        go_wp2
        have HB0 := HBR
        clear HBR
        go_loopw [8] (fun j wr => ∃ k : Nat, j = .int .i64 (k : Int) ∧ k ≤ i ∧ (∀ y ∈ L.take k, ∀ t ∈ y.2, t ∈ L.map (·.1)) ∧ Below w.heap.size w wr) (fun j _ => i - (intOf j).toNat)
        case atStart => exact ⟨0, rfl, Nat.zero_le _, by simp, HB0.out⟩
        case round =>
          obtain ⟨k, rfl, hk, hni, hbk⟩ := hrel
          have HNI := Lib.hid hni
          have HBK := Lib.hid hbk
          rename World => wk
          clear hni hbk HB0
          by_cases hki : k < i
          · as_aux_lemma =>
            obtain ⟨ha, hbs⟩ := HA.out (by rw [HLN.out]; omega)
            subst ha
            obtain ⟨ta, tc, hrow⟩ := HROWS.out k (by rw [HLN.out]; omega)
            obtain ⟨x, hx⟩ : ∃ x, L[k]'(by rw [HLN.out]; omega) = x := ⟨_, rfl⟩
            rw [hx] at hrow
            have HX : Hid (∃ h : k < L.length, L[k] = x) := ⟨_, hx⟩
            have HROW := Lib.hid hrow
            obtain ⟨m, hm⟩ : ∃ m, x.2.length = m := ⟨_, rfl⟩
            have hmb : m ≤ 100 := by rw [← hm, ← hx]; exact HTS.out _ (List.getElem_mem _)
            have HM := Lib.hid hm
            clear hrow hx hm
            have hmr := HM.out
            go_wp2
            go_loopw [9] (fun j wr => ∃ k : Nat, j = .int .i64 (k : Int) ∧ k ≤ m ∧ (∀ t ∈ x.2.take k, t ∈ L.map (·.1)) ∧ Below w.heap.size w wr) (fun j _ => m - (intOf j).toNat)
            case atStart => exact ⟨0, rfl, Nat.zero_le _, by simp, HBK.out⟩
            case round =>
              obtain ⟨j, rfl, hj, hnj, hbj⟩ := hrel
              have HNJ := Lib.hid hnj
              have HBJ := Lib.hid hbj
              rename World => wj
              clear hnj hbj
              obtain ⟨c1, c2, c3⟩ := HROW.out wj HBJ.out
              rw [HM.out] at c2
              by_cases hjm : j < m
              · obtain ⟨tb, toff, hta, htc⟩ := c3.get j (by rw [HM.out]; exact hjm)
                subst hta
                obtain ⟨t, ht⟩ : ∃ t, x.2[j]'(by rw [HM.out]; exact hjm) = t := ⟨_, rfl⟩
                rw [ht] at htc
                have HT : Hid (∃ h : j < x.2.length, x.2[j] = t) := ⟨_, ht⟩
                have HTC := Lib.hid htc
                clear ht htc c1 c3 hmr
                go_wp2
                go_loopw [10, 11] (fun bv j wr => ∃ (k : Nat) (bb : Bool), bv = .bool bb ∧ j = .int .i64 (k : Int) ∧ k ≤ i ∧ (bb = true ↔ t ∈ (L.take k).map (·.1)) ∧ Below wj.heap.size wj wr) (fun _ j _ => i - (intOf j).toNat)
                case atStart => exact ⟨0, false, rfl, rfl, Nat.zero_le _, by simp, Below.refl _ _⟩
                case round =>
                  obtain ⟨p, bb, rfl, rfl, hp, hbb, hbp⟩ := hrel
                  have HBB := Lib.hid hbb
                  have HBP := Lib.hid hbp
                  rename World => wp
                  clear hbb hbp
                  by_cases hpi : p < i
                  · obtain ⟨bb2, hbb2⟩ : ∃ z, (bb || decide ((L[p]'(by rw [HLN.out]; exact hpi)).1 = t)) = z := ⟨_, rfl⟩
                    have HBB2 : Hid (bb2 = true ↔ t ∈ (L.take (p + 1)).map (·.1)) := by
                      show _ ↔ _
                      rw [← hbb2, take_succ_map (by rw [HLN.out]; exact hpi), List.mem_append, List.mem_singleton, Bool.or_eq_true, HBB.out, decide_eq_true_eq]
                      exact ⟨fun h => h.imp id Eq.symm, fun h => h.imp id Eq.symm⟩
                    cases bb with
                    | true =>
                      have hb2 : bb2 = true := by rw [← hbb2]; simp
                      subst hb2
                      clear hbb2
                      go_upto_region 26 with fail
                      refine wp_region_held_drew (S := fun _ => True) (by kernel_rfl) trivial (fun hHeld => ?_)
                      refine wpAnyH_take (i := 0) (v := ?_) rfl (by kernel_rfl) (by kernel_rfl) (by kernel_rfl) (fun _ _ _ h => h) (Or.inl ⟨by rfl, ?_⟩) hHeld ?_
                      rotate_left
                      · intro w' hS'
                        (try dsimp only at hS')
                        go_simp
                        try with_reducible rfl
                      try simp only [List.getElem_toArray, List.getElem_cons_zero, Act.put, List.setIfInBounds_toArray, List.set_cons_zero, List.set_cons_succ]
                      refine wpAnyH_take (i := 1) (v := ?_) rfl (by kernel_rfl) (by kernel_rfl) (by kernel_rfl) (fun _ _ _ h => h) (Or.inl ⟨by rfl, ?_⟩) hHeld ?_
                      rotate_left
                      · intro w' hS'
                        (try dsimp only at hS')
                        go_simp
                        try with_reducible rfl
                      try simp only [List.getElem_toArray, List.getElem_cons_succ, List.getElem_cons_zero, Act.put, List.setIfInBounds_toArray, List.set_cons_zero, List.set_cons_succ]
                      refine wpAnyH_take (i := 2) (v := undef) rfl (by kernel_rfl) (by kernel_rfl) (by kernel_rfl) (fun _ _ _ h => h) (Or.inr ⟨by rfl, rfl⟩) hHeld ?_
                      try simp only [List.getElem_toArray, List.getElem_cons_succ, List.getElem_cons_zero, Act.put, List.setIfInBounds_toArray, List.set_cons_zero, List.set_cons_succ]
                      refine wpAnyH_take (i := 3) (v := undef) rfl (by kernel_rfl) (by kernel_rfl) (by kernel_rfl) (fun _ _ _ h => h) (Or.inr ⟨by rfl, rfl⟩) hHeld ?_
                      try simp only [List.getElem_toArray, List.getElem_cons_succ, List.getElem_cons_zero, Act.put, List.setIfInBounds_toArray, List.set_cons_zero, List.set_cons_succ]
                      refine wpAnyH_take (i := 4) (v := undef) rfl (by kernel_rfl) (by kernel_rfl) (by kernel_rfl) (fun _ _ _ h => h) (Or.inr ⟨by rfl, rfl⟩) hHeld ?_
                      try simp only [List.getElem_toArray, List.getElem_cons_succ, List.getElem_cons_zero, Act.put, List.setIfInBounds_toArray, List.set_cons_zero, List.set_cons_succ]
                      refine wpAnyH_take (i := 5) (v := undef) rfl (by kernel_rfl) (by kernel_rfl) (by kernel_rfl) (fun _ _ _ h => h) (Or.inr ⟨by rfl, rfl⟩) hHeld ?_
                      try simp only [List.getElem_toArray, List.getElem_cons_succ, List.getElem_cons_zero, Act.put, List.setIfInBounds_toArray, List.set_cons_zero, List.set_cons_succ]
                      refine wpAnyH_take (i := 6) (v := undef) rfl (by kernel_rfl) (by kernel_rfl) (by kernel_rfl) (fun _ _ _ h => h) (Or.inr ⟨by rfl, rfl⟩) hHeld ?_
                      try simp only [List.getElem_toArray, List.getElem_cons_succ, List.getElem_cons_zero, Act.put, List.setIfInBounds_toArray, List.set_cons_zero, List.set_cons_succ]
                      refine wpAnyH_take (i := 7) (v := undef) rfl (by kernel_rfl) (by kernel_rfl) (by kernel_rfl) (fun _ _ _ h => h) (Or.inr ⟨by rfl, rfl⟩) hHeld ?_
                      try simp only [List.getElem_toArray, List.getElem_cons_succ, List.getElem_cons_zero, Act.put, List.setIfInBounds_toArray, List.set_cons_zero, List.set_cons_succ]
                      refine wpAnyH_take (i := 8) (v := undef) rfl (by kernel_rfl) (by kernel_rfl) (by kernel_rfl) (fun _ _ _ h => h) (Or.inr ⟨by rfl, rfl⟩) hHeld ?_
                      try simp only [List.getElem_toArray, List.getElem_cons_succ, List.getElem_cons_zero, Act.put, List.setIfInBounds_toArray, List.set_cons_zero, List.set_cons_succ]
                      refine wpAnyH_take (i := 9) (v := undef) rfl (by kernel_rfl) (by kernel_rfl) (by kernel_rfl) (fun _ _ _ h => h) (Or.inr ⟨by rfl, rfl⟩) hHeld ?_
                      try simp only [List.getElem_toArray, List.getElem_cons_succ, List.getElem_cons_zero, Act.put, List.setIfInBounds_toArray, List.set_cons_zero, List.set_cons_succ]
                      refine wpAnyH_take (i := 10) (v := undef) rfl (by kernel_rfl) (by kernel_rfl) (by kernel_rfl) (fun _ _ _ h => h) (Or.inr ⟨by rfl, rfl⟩) hHeld ?_
                      try simp only [List.getElem_toArray, List.getElem_cons_succ, List.getElem_cons_zero, Act.put, List.setIfInBounds_toArray, List.set_cons_zero, List.set_cons_succ]
                      refine wpAnyH_take (i := 11) (v := undef) rfl (by kernel_rfl) (by kernel_rfl) (by kernel_rfl) (fun _ _ _ h => h) (Or.inr ⟨by rfl, rfl⟩) hHeld ?_
                      try simp only [List.getElem_toArray, List.getElem_cons_succ, List.getElem_cons_zero, Act.put, List.setIfInBounds_toArray, List.set_cons_zero, List.set_cons_succ]
                      refine wpAnyH_take (i := 12) (v := undef) rfl (by kernel_rfl) (by kernel_rfl) (by kernel_rfl) (fun _ _ _ h => h) (Or.inr ⟨by rfl, rfl⟩) hHeld ?_
                      try simp only [List.getElem_toArray, List.getElem_cons_succ, List.getElem_cons_zero, Act.put, List.setIfInBounds_toArray, List.set_cons_zero, List.set_cons_succ]
                      refine wpAnyH_take (i := 13) (v := undef) rfl (by kernel_rfl) (by kernel_rfl) (by kernel_rfl) (fun _ _ _ h => h) (Or.inr ⟨by rfl, rfl⟩) hHeld ?_
                      try simp only [List.getElem_toArray, List.getElem_cons_succ, List.getElem_cons_zero, Act.put, List.setIfInBounds_toArray, List.set_cons_zero, List.set_cons_succ]
                      refine wpAnyH_take (i := 14) (v := undef) rfl (by kernel_rfl) (by kernel_rfl) (by kernel_rfl) (fun _ _ _ h => h) (Or.inr ⟨by rfl, rfl⟩) hHeld ?_
                      try simp only [List.getElem_toArray, List.getElem_cons_succ, List.getElem_cons_zero, Act.put, List.setIfInBounds_toArray, List.set_cons_zero, List.set_cons_succ]
                      refine wpAnyH_take (i := 15) (v := undef) rfl (by kernel_rfl) (by kernel_rfl) (by kernel_rfl) (fun _ _ _ h => h) (Or.inr ⟨by rfl, rfl⟩) hHeld ?_
                      try simp only [List.getElem_toArray, List.getElem_cons_succ, List.getElem_cons_zero, Act.put, List.setIfInBounds_toArray, List.set_cons_zero, List.set_cons_succ]
                      refine wpAnyH_take (i := 16) (v := ?_) rfl (by kernel_rfl) (by kernel_rfl) (by kernel_rfl) (fun _ _ _ h => h) (Or.inl ⟨by rfl, ?_⟩) hHeld ?_
                      rotate_left
                      · intro w' hS'
                        (try dsimp only at hS')
                        go_simp
                        try with_reducible rfl
                      try simp only [List.getElem_toArray, List.getElem_cons_succ, List.getElem_cons_zero, Act.put, List.setIfInBounds_toArray, List.set_cons_zero, List.set_cons_succ]
                      refine wpAnyH_take (i := 17) (v := ?_) rfl (by kernel_rfl) (by kernel_rfl) (by kernel_rfl) (fun _ _ _ h => h) (Or.inl ⟨by rfl, ?_⟩) hHeld ?_
                      rotate_left
                      · intro w' hS'
                        (try dsimp only at hS')
                        go_simp
                        try with_reducible rfl
                      try simp only [List.getElem_toArray, List.getElem_cons_succ, List.getElem_cons_zero, Act.put, List.setIfInBounds_toArray, List.set_cons_zero, List.set_cons_succ]
                      refine wpAnyH_done (by kernel_rfl) ?_ _
                      have HBD := Lib.hid (drewN_below HBP.out 1)
                      go_wp2
                      exact ⟨⟨p + 1, true, rfl, by go_num, hpi, HBB2.out, HBD.out⟩, by show i - ((p : Int) + 1).toNat < i - (p : Int).toNat; omega⟩
                    | false =>
                      have hpn : p < L.length := by rw [HLN.out]; exact hpi
                      obtain ⟨tz, tzc, hrowz⟩ := HROWS.out p hpn
                      obtain ⟨z, hz⟩ : ∃ x, L[p] = x := ⟨_, rfl⟩
                      rw [hz] at hrowz hbb2
                      obtain ⟨d1, d2⟩ := rf_cells (hrowz wp (below_trans HBJ.out HBP.out)).1
                      obtain ⟨d3, d4⟩ := rf_cells (HTC.out wp HBP.out)
                      have d5 := (HROW.out wp (below_trans HBJ.out HBP.out)).2.1
                      rw [HM.out] at d5
                      have hS0 : wp.drew.cell? ⟨b, off + p * 3, none⟩ = some (.string z.1.1) ∧ wp.drew.cell? ⟨b, off + p * 3 + 1, none⟩ = some (.int .i64 z.1.2) ∧ wp.drew.cell? ⟨tb, toff + j * 2, none⟩ = some (.string t.1) ∧ wp.drew.cell? ⟨tb, toff + j * 2 + 1, none⟩ = some (.int .i64 t.2) ∧ wp.drew.cell? ⟨b, off + k * 3 + 2, none⟩ = some (.slice (some ⟨tb, toff, none⟩) m tc) := ⟨d1, d2, d3, d4, d5⟩
                      have HQ : Hid (decide (z.1 = t) = bb2) := Lib.hid (by rw [← hbb2]; rfl)
                      clear hrowz hz d1 d2 d3 d4 d5 hbb2
                      go_upto_region 26 with fail
                      refine wp_region_held_drew (S := fun w' => w'.cell? ⟨b, off + p * 3, none⟩ = some (.string z.1.1) ∧ w'.cell? ⟨b, off + p * 3 + 1, none⟩ = some (.int .i64 z.1.2) ∧ w'.cell? ⟨tb, toff + j * 2, none⟩ = some (.string t.1) ∧ w'.cell? ⟨tb, toff + j * 2 + 1, none⟩ = some (.int .i64 t.2) ∧ w'.cell? ⟨b, off + k * 3 + 2, none⟩ = some (.slice (some ⟨tb, toff, none⟩) m tc)) (by kernel_rfl) ⟨hS0.1, hS0.2.1, hS0.2.2.1, hS0.2.2.2.1, hS0.2.2.2.2⟩ (fun hHeld => ?_)
                      refine wpAnyH_take (i := 0) (v := ?_) rfl (by kernel_rfl) (by kernel_rfl) (by kernel_rfl) (fun _ _ _ h => h) (Or.inl ⟨by rfl, ?_⟩) hHeld ?_
                      rotate_left
                      · intro w' hS'
                        (try dsimp only at hS')
                        go_simp
                        try with_reducible rfl
                      try simp only [List.getElem_toArray, List.getElem_cons_zero, Act.put, List.setIfInBounds_toArray, List.set_cons_zero, List.set_cons_succ]
                      refine wpAnyH_take (i := 1) (v := ?_) rfl (by kernel_rfl) (by kernel_rfl) (by kernel_rfl) (fun _ _ _ h => h) (Or.inl ⟨by rfl, ?_⟩) hHeld ?_
                      rotate_left
                      · intro w' hS'
                        (try dsimp only at hS')
                        go_simp
                        try with_reducible rfl
                      try simp only [List.getElem_toArray, List.getElem_cons_succ, List.getElem_cons_zero, Act.put, List.setIfInBounds_toArray, List.set_cons_zero, List.set_cons_succ]
                      refine wpAnyH_take (i := 2) (v := ?_) rfl (by kernel_rfl) (by kernel_rfl) (by kernel_rfl) (fun _ _ _ h => h) (Or.inl ⟨by rfl, ?_⟩) hHeld ?_
                      rotate_left
                      · intro w' hS'
                        (try dsimp only at hS')
                        go_simp
                        try with_reducible rfl
                      try simp only [List.getElem_toArray, List.getElem_cons_succ, List.getElem_cons_zero, Act.put, List.setIfInBounds_toArray, List.set_cons_zero, List.set_cons_succ]
                      refine wpAnyH_take (i := 3) (v := ?_) rfl (by kernel_rfl) (by kernel_rfl) (by kernel_rfl) (fun _ _ _ h => h) (Or.inl ⟨by rfl, ?_⟩) hHeld ?_
                      rotate_left
                      · intro w' hS'
                        (try dsimp only at hS')
                        go_simp
                        try with_reducible rfl
                      try simp only [List.getElem_toArray, List.getElem_cons_succ, List.getElem_cons_zero, Act.put, List.setIfInBounds_toArray, List.set_cons_zero, List.set_cons_succ]
                      refine wpAnyH_take (i := 4) (v := ?_) rfl (by kernel_rfl) (by kernel_rfl) (by kernel_rfl) (fun _ _ _ h => h) (Or.inl ⟨by rfl, ?_⟩) hHeld ?_
                      rotate_left
                      · intro w' hS'
                        (try dsimp only at hS')
                        go_simp
                        try with_reducible rfl
                      try simp only [List.getElem_toArray, List.getElem_cons_succ, List.getElem_cons_zero, Act.put, List.setIfInBounds_toArray, List.set_cons_zero, List.set_cons_succ]
                      refine wpAnyH_take (i := 5) (v := ?_) rfl (by kernel_rfl) (by kernel_rfl) (by kernel_rfl) (fun _ _ _ h => h) (Or.inl ⟨by rfl, ?_⟩) hHeld ?_
                      rotate_left
                      · intro w' hS'
                        (try dsimp only at hS')
                        go_simp
                        try with_reducible rfl
                      try simp only [List.getElem_toArray, List.getElem_cons_succ, List.getElem_cons_zero, Act.put, List.setIfInBounds_toArray, List.set_cons_zero, List.set_cons_succ]
                      refine wpAnyH_take (i := 6) (v := ?_) rfl (by kernel_rfl) (by kernel_rfl) (by kernel_rfl) (fun _ _ _ h => h) (Or.inl ⟨by rfl, ?_⟩) hHeld ?_
                      rotate_left
                      · intro w' hS'
                        (try dsimp only at hS')
                        go_simp
                        try with_reducible rfl
                      try simp only [List.getElem_toArray, List.getElem_cons_succ, List.getElem_cons_zero, Act.put, List.setIfInBounds_toArray, List.set_cons_zero, List.set_cons_succ]
                      refine wpAnyH_take (i := 7) (v := ?_) rfl (by kernel_rfl) (by kernel_rfl) (by kernel_rfl) (fun _ _ _ h => h) (Or.inl ⟨by rfl, ?_⟩) hHeld ?_
                      rotate_left
                      · intro w' hS'
                        (try dsimp only at hS')
                        go_simp
                        try with_reducible rfl
                      try simp only [List.getElem_toArray, List.getElem_cons_succ, List.getElem_cons_zero, Act.put, List.setIfInBounds_toArray, List.set_cons_zero, List.set_cons_succ]
                      refine wpAnyH_take (i := 8) (v := ?_) rfl (by kernel_rfl) (by kernel_rfl) (by kernel_rfl) (fun _ _ _ h => h) (Or.inl ⟨by rfl, ?_⟩) hHeld ?_
                      rotate_left
                      · intro w' hS'
                        (try dsimp only at hS')
                        go_simp
                        try with_reducible rfl
                      try simp only [List.getElem_toArray, List.getElem_cons_succ, List.getElem_cons_zero, Act.put, List.setIfInBounds_toArray, List.set_cons_zero, List.set_cons_succ]
                      refine wpAnyH_take (i := 9) (v := ?_) rfl (by kernel_rfl) (by kernel_rfl) (by kernel_rfl) (fun _ _ _ h => h) (Or.inl ⟨by rfl, ?_⟩) hHeld ?_
                      rotate_left
                      · intro w' hS'
                        (try dsimp only at hS')
                        go_simp
                        try with_reducible rfl
                      try simp only [List.getElem_toArray, List.getElem_cons_succ, List.getElem_cons_zero, Act.put, List.setIfInBounds_toArray, List.set_cons_zero, List.set_cons_succ]
                      refine wpAnyH_take (i := 10) (v := ?_) rfl (by kernel_rfl) (by kernel_rfl) (by kernel_rfl) (fun _ _ _ h => h) (Or.inl ⟨by rfl, ?_⟩) hHeld ?_
                      rotate_left
                      · intro w' hS'
                        (try dsimp only at hS')
                        go_simp
                        try with_reducible rfl
                      try simp only [List.getElem_toArray, List.getElem_cons_succ, List.getElem_cons_zero, Act.put, List.setIfInBounds_toArray, List.set_cons_zero, List.set_cons_succ]
                      refine wpAnyH_take (i := 11) (v := ?_) rfl (by kernel_rfl) (by kernel_rfl) (by kernel_rfl) (fun _ _ _ h => h) (Or.inl ⟨by rfl, ?_⟩) hHeld ?_
                      rotate_left
                      · intro w' hS'
                        (try dsimp only at hS')
                        go_simp
                        try with_reducible rfl
                      try simp only [List.getElem_toArray, List.getElem_cons_succ, List.getElem_cons_zero, Act.put, List.setIfInBounds_toArray, List.set_cons_zero, List.set_cons_succ]
                      refine wpAnyH_take (i := 12) (v := ?_) rfl (by kernel_rfl) (by kernel_rfl) (by kernel_rfl) (fun _ _ _ h => h) (Or.inl ⟨by rfl, ?_⟩) hHeld ?_
                      rotate_left
                      · intro w' hS'
                        (try dsimp only at hS')
                        go_simp
                        try with_reducible rfl
                      try simp only [List.getElem_toArray, List.getElem_cons_succ, List.getElem_cons_zero, Act.put, List.setIfInBounds_toArray, List.set_cons_zero, List.set_cons_succ]
                      refine wpAnyH_take (i := 13) (v := ?_) rfl (by kernel_rfl) (by kernel_rfl) (by kernel_rfl) (fun _ _ _ h => h) (Or.inl ⟨by rfl, ?_⟩) hHeld ?_
                      rotate_left
                      · intro w' hS'
                        (try dsimp only at hS')
                        go_simp
                        try with_reducible rfl
                      try simp only [List.getElem_toArray, List.getElem_cons_succ, List.getElem_cons_zero, Act.put, List.setIfInBounds_toArray, List.set_cons_zero, List.set_cons_succ]
                      refine wpAnyH_take (i := 14) (v := ?_) rfl (by kernel_rfl) (by kernel_rfl) (by kernel_rfl) (fun _ _ _ h => h) (Or.inl ⟨by rfl, ?_⟩) hHeld ?_
                      rotate_left
                      · intro w' hS'
                        (try dsimp only at hS')
                        go_simp
                        try with_reducible rfl
                      try simp only [List.getElem_toArray, List.getElem_cons_succ, List.getElem_cons_zero, Act.put, List.setIfInBounds_toArray, List.set_cons_zero, List.set_cons_succ]
                      refine wpAnyH_take (i := 15) (v := _) rfl (by kernel_rfl) (by kernel_rfl) (by kernel_rfl) (fun _ _ _ h => h) (yieldsIf_eqlRf (S := fun w' => w'.cell? ⟨b, off + p * 3, none⟩ = some (.string z.1.1) ∧ w'.cell? ⟨b, off + p * 3 + 1, none⟩ = some (.int .i64 z.1.2) ∧ w'.cell? ⟨tb, toff + j * 2, none⟩ = some (.string t.1) ∧ w'.cell? ⟨tb, toff + j * 2 + 1, none⟩ = some (.int .i64 t.2) ∧ w'.cell? ⟨b, off + k * 3 + 2, none⟩ = some (.slice (some ⟨tb, toff, none⟩) m tc)) (by rfl) (.tmp 90) (.tmp 98) rfl z.1 t rfl rfl bb2 HQ.out) hHeld ?_
                      try simp only [List.getElem_toArray, List.getElem_cons_succ, List.getElem_cons_zero, Act.put, List.setIfInBounds_toArray, List.set_cons_zero, List.set_cons_succ]
                      refine wpAnyH_take (i := 16) (v := ?_) rfl (by kernel_rfl) (by kernel_rfl) (by kernel_rfl) (fun _ _ _ h => h) (Or.inl ⟨by rfl, ?_⟩) hHeld ?_
                      rotate_left
                      · intro w' hS'
                        (try dsimp only at hS')
                        go_simp
                        try with_reducible rfl
                      try simp only [List.getElem_toArray, List.getElem_cons_succ, List.getElem_cons_zero, Act.put, List.setIfInBounds_toArray, List.set_cons_zero, List.set_cons_succ]
                      refine wpAnyH_take (i := 17) (v := ?_) rfl (by kernel_rfl) (by kernel_rfl) (by kernel_rfl) (fun _ _ _ h => h) (Or.inl ⟨by rfl, ?_⟩) hHeld ?_
                      rotate_left
                      · intro w' hS'
                        (try dsimp only at hS')
                        go_simp
                        try with_reducible rfl
                      try simp only [List.getElem_toArray, List.getElem_cons_succ, List.getElem_cons_zero, Act.put, List.setIfInBounds_toArray, List.set_cons_zero, List.set_cons_succ]
                      refine wpAnyH_done (by kernel_rfl) ?_ _
                      have HBD := Lib.hid (drewN_below HBP.out 1)
                      go_wp2
                      exact ⟨⟨p + 1, bb2, rfl, by go_num, hpi, HBB2.out, HBD.out⟩, by show i - ((p : Int) + 1).toNat < i - (p : Int).toNat; omega⟩
                  · have hp' : p = i := by omega
                    subst hp'
                    have HIN : Hid (bb = true ↔ t ∈ L.map (·.1)) := by
                      have := HBB.out
                      rw [← HLN.out, List.take_length] at this
                      exact this
                    cases bb with
                    | false =>
                      have HE2 : Hid (ordR ltR L = ([], 7)) := ordR_none HGA.out HNL.out (by
                        obtain ⟨h, e1⟩ := HX.out
                        obtain ⟨h2, e2⟩ := HT.out
                        refine ⟨x, by rw [← e1]; exact List.getElem_mem _, t, by rw [← e2]; exact List.getElem_mem _, fun h => ?_⟩
                        have := HIN.out.2 h
                        cases this)
                      go_wp2
                      exact HEND.out _ _ HE2.out (below_trans HBJ.out HBP.out)
                    | true =>
                      have HJ2 : Hid (∀ u ∈ x.2.take (j + 1), u ∈ L.map (·.1)) := Lib.hid fun u hu => by
                        obtain ⟨h2, e2⟩ := HT.out
                        rcases (mem_take_succ h2 u).1 hu with hu | hu
                        · exact HNJ.out u hu
                        · rw [hu, e2]; exact HIN.out.1 rfl
                      go_wp2
                      exact ⟨⟨j + 1, by go_num, hjm, HJ2.out, below_trans HBJ.out HBP.out⟩, by show m - ((j : Int) + 1).toNat < m - (j : Int).toNat; omega⟩
              · have hj' : j = m := by omega
                subst hj'
                have HK2 : Hid (∀ y ∈ L.take (k + 1), ∀ t ∈ y.2, t ∈ L.map (·.1)) := Lib.hid fun y hy t ht => by
                  obtain ⟨h, e1⟩ := HX.out
                  rcases (mem_take_succ h y).1 hy with hy | hy
                  · exact HNI.out y hy t ht
                  · rw [hy, e1] at ht
                    have := HNJ.out
                    rw [← HM.out, List.take_length] at this
                    exact this t ht
                clear c1 c3
                go_wp2
                exact ⟨⟨k + 1, by go_num, hki, HK2.out, HBJ.out⟩, by show i - ((k : Int) + 1).toNat < i - (k : Int).toNat; omega⟩
          · have hk' : k = i := by omega
            subst hk'
            have HIN : Hid (¬ ∃ x ∈ L, ∃ t ∈ x.2, t ∉ L.map (·.1)) := Lib.hid (by
              rintro ⟨x, hx, t, ht, h⟩
              have := HNI.out
              rw [← HLN.out, List.take_length] at this
              exact h (this x hx t ht))
            have hnb := hb
            have HEX : Hid (∀ out, Reach ltR L out → out.length = L.length → ordR ltR L = (out, 0)) := Lib.hid fun out h1 h2 => by
              rw [ordR_topo HGA.out HNL.out HIN.out, h1.topo totR, h2, Nat.sub_self]
              rfl
            have HRD : Hid (∀ out, Reach ltR L out → out.length < L.length → pick ltR L out = none → ordR ltR L = ([], 331)) := Lib.hid fun out h1 h2 h3 => by
              rw [ordR_topo HGA.out HNL.out HIN.out, h1.end_ totR h3, if_pos h2]
            clear HNI HGA HNL HIN
            go_wp2
            go_loopw [12] (fun ov wr => ∃ (out : List Rf) (oa : Option Addr) (m oc : Nat), ov = .slice oa m oc ∧ out.length = m ∧ m ≤ k ∧ Reach ltR L out ∧ OwnRf wr (.slice oa m oc) out ∧ (∀ g, (Value.slice oa m oc).ownBlock = some g → w.heap.size ≤ g) ∧ Below w.heap.size w wr) (fun ov _ => k - lenV ov)
            case atStart => exact ⟨[], none, 0, 0, rfl, rfl, Nat.zero_le _, .nil, OwnRf.nil _, by simp [Value.ownBlock], HBK.out⟩
            case round =>
              obtain ⟨out, oa, m, oc, rfl, hm, hmk, hre, hown, hlow, hbr⟩ := hrel
              have HMO := Lib.hid hm
              have HRE := Lib.hid hre
              have HOWN := Lib.hid hown
              have HLOW := Lib.hid hlow
              have HBR := Lib.hid hbr
              rename World => wr
              have HRO : Hid (∀ W, Below wr.heap.size wr W → RdRf W oa out) := Lib.hid fun W hW => by
                obtain ⟨a1, c1, e1, -, -, h1⟩ := (hown.later hW).rd
                cases e1
                exact h1
              clear hm hre hown hlow hbr HBK
              by_cases hmk2 : m < k
              · as_aux_lemma =>
                obtain ⟨ha, hbs⟩ := HA.out (by rw [HLN.out]; omega)
                subst ha
                go_wp2
                go_loopw [13, 14] (fun bv j wx => ∃ (p : Nat) (bz : Int), bv = .int .i64 bz ∧ j = .int .i64 (p : Int) ∧ p ≤ k ∧ BestAt L ((L.take p).foldl (bestF ltR out) none) bz ∧ Below wr.heap.size wr wx) (fun _ j _ => k - (intOf j).toNat)
                case atStart => exact ⟨0, -1, rfl, rfl, Nat.zero_le _, .inl ⟨rfl, rfl⟩, Below.refl _ _⟩
                case round =>
                  obtain ⟨p, bz, rfl, rfl, hp, hbest, hbx⟩ := hrel
                  have HBEST := Lib.hid hbest
                  have HBX := Lib.hid hbx
                  rename World => wx
                  clear hbest hbx
                  by_cases hpk : p < k
                  · as_aux_lemma =>
                    have hin : p < k := hpk
                    obtain ⟨ta, tc, hrow⟩ := HROWS.out p (by rw [HLN.out]; omega)
                    obtain ⟨x, hx⟩ : ∃ x, L[p]'(by rw [HLN.out]; omega) = x := ⟨_, rfl⟩
                    rw [hx] at hrow
                    have HX : Hid (∃ h : p < L.length, L[p] = x) := ⟨_, hx⟩
                    have HROW := Lib.hid hrow
                    obtain ⟨m2, hm⟩ : ∃ m, x.2.length = m := ⟨_, rfl⟩
                    have hmb : m2 ≤ 100 := by rw [← hm, ← hx]; exact HTS.out _ (List.getElem_mem _)
                    have HM := Lib.hid hm
                    clear hrow hx hm
                    have HIN : Hid (∀ W, Below wx.heap.size wx W → ∀ v : Rf, Calls Try.prog 34 #[.slice oa m oc, .agg #[.string v.1, .int .i64 v.2]] W fun e w' => e = .returned (.bool (memB v out)) ∧ Below wx.heap.size wx w') := Lib.hid fun W hW v =>
                      (docin_any oa m oc out v W HMO.out (by omega) (HRO.out W (below_trans HBX.out hW))).mono fun e w' q => ⟨q.1, below_trans hW q.2⟩
                    have HROWX : Hid (∀ W, Below wx.heap.size wx W → LkR W b (off + p * 3) x ta tc) := Lib.hid fun W hW => HROW.out W (below_trans HBR.out (below_trans HBX.out hW))
                    obtain ⟨ib, hib⟩ : ∃ z, memB x.1 out = z := ⟨_, rfl⟩
                    have HIB := Lib.hid hib
                    have HI1 : Hid (Calls Try.prog 34 #[.slice oa m oc, .agg #[.string x.1.1, .int .i64 x.1.2]] wx fun e w' => e = .returned (.bool ib) ∧ Below wx.heap.size wx w') := by rw [← hib]; exact HIN.out wx (Below.refl _ _) x.1
                    clear hib
                    go_wp2_with (first
                      | (refine step_loadRf rfl (.tmp 118) rfl (HROWX.out _ (Below.refl _ _)).1 rfl ?_)
                      | (go_at_call 34; refine HI1.out.mono ?_; rintro _ w2 ⟨rfl, hb2⟩; have HB2 := Lib.hid hb2; clear hb2))
                    go_loopw [15, 16] (fun rv j wy => ∃ (q : Nat) (rb : Bool), rv = .bool rb ∧ j = .int .i64 (q : Int) ∧ q ≤ m2 ∧ (rb = (!ib && (x.2.take q).all fun t => memB t out)) ∧ Below wx.heap.size wx wy) (fun _ j _ => m2 - (intOf j).toNat)
                    case atStart => exact ⟨0, !ib, rfl, rfl, Nat.zero_le _, by simp, HB2.out⟩
                    case round =>
                      obtain ⟨q, rb, rfl, rfl, hq, hrb, hby⟩ := hrel
                      have HRB := Lib.hid hrb
                      have HBY := Lib.hid hby
                      rename World => wy
                      clear hrb hby
                      obtain ⟨c1, c2, c3⟩ := HROWX.out wy HBY.out
                      rw [HM.out] at c2
                      by_cases hqm : q < m2
                      · obtain ⟨tb, toff, hta, htc⟩ := c3.get q (by rw [HM.out]; exact hqm)
                        subst hta
                        obtain ⟨t, ht⟩ : ∃ t, x.2[q]'(by rw [HM.out]; exact hqm) = t := ⟨_, rfl⟩
                        rw [ht] at htc
                        have HTC := Lib.hid (htc wy (Below.refl _ _))
                        obtain ⟨it, hit⟩ : ∃ z, memB t out = z := ⟨_, rfl⟩
                        have HI2 : Hid (Calls Try.prog 34 #[.slice oa m oc, .agg #[.string t.1, .int .i64 t.2]] wy fun e w' => e = .returned (.bool it) ∧ Below wx.heap.size wx w') := by rw [← hit]; exact HIN.out wy HBY.out t
                        have HRB2 : Hid (∀ z, z = (rb && it) → z = (!ib && (x.2.take (q + 1)).all fun t => memB t out)) := Lib.hid fun z hz => by
                          rw [all_succ (by rw [HM.out]; exact hqm), ht, hit, ← Bool.and_assoc, ← HRB.out]
                          exact hz
                        clear ht htc hit c1 c3
                        cases rb with
                        | true =>
                          go_wp2_with (first
                            | (refine step_loadRfG (by rfl) (.tmp 141) rfl HTC.out rfl ?_)
                            | (go_at_call 34; refine HI2.out.mono ?_; rintro _ w3 ⟨rfl, hb3⟩; have HB3 := Lib.hid hb3; clear hb3))
                          exact ⟨⟨q + 1, it, rfl, by go_num, hqm, HRB2.out _ rfl, HB3.out⟩, by show m2 - ((q : Int) + 1).toNat < m2 - (q : Int).toNat; omega⟩
                        | false =>
                          go_wp2
                          exact ⟨⟨q + 1, false, rfl, by go_num, hqm, HRB2.out _ rfl, HBY.out⟩, by show m2 - ((q : Int) + 1).toNat < m2 - (q : Int).toNat; omega⟩
                      · have hq' : q = m2 := by omega
                        subst hq'
                        have HRDY : Hid (rdyB out x = rb) := by
                          have h1 := HRB.out
                          rw [← HM.out, List.take_length] at h1
                          show _ = _
                          rw [rdyB_mem, HIB.out, h1]
                        have HBW := Lib.hid (below_trans HBX.out HBY.out)
                        clear HRB HI1 HIN HB2 c3 c1
                        obtain ⟨bo, hbo⟩ : ∃ z, (L.take p).foldl (bestF ltR out) none = z := ⟨_, rfl⟩
                        have HF : Hid ((L.take (p + 1)).foldl (bestF ltR out) none = if rb && bett ltR bo x.1 then some x.1 else bo) := by
                          obtain ⟨h, e1⟩ := HX.out
                          show _ = _
                          rw [fold_succ h, hbo, e1]
                          unfold bestF
                          rw [HRDY.out]
                        have HBE := HBEST.out
                        rw [hbo] at HBE
                        clear hbo HBEST
                        cases rb with
                        | false =>
                          have HBE2 : Hid (BestAt L ((L.take (p + 1)).foldl (bestF ltR out) none) bz) := by rw [HF.out]; exact HBE
                          clear HBE
                          go_upto_region 40 with fail
                          refine wp_region_held_drew (S := fun _ => True) (by kernel_rfl) trivial (fun hHeld => ?_)
                          refine wpAnyH_take (i := 0) (v := ?_) rfl (by kernel_rfl) (by kernel_rfl) (by kernel_rfl) (fun _ _ _ h => h) (Or.inl ⟨by rfl, ?_⟩) hHeld ?_
                          rotate_left
                          · intro w' hS'
                            (try dsimp only at hS')
                            go_simp
                            try with_reducible rfl
                          try simp only [List.getElem_toArray, List.getElem_cons_zero, Act.put, List.setIfInBounds_toArray, List.set_cons_zero, List.set_cons_succ]
                          refine wpAnyH_take (i := 1) (v := ?_) rfl (by kernel_rfl) (by kernel_rfl) (by kernel_rfl) (fun _ _ _ h => h) (Or.inl ⟨by rfl, ?_⟩) hHeld ?_
                          rotate_left
                          · intro w' hS'
                            (try dsimp only at hS')
                            go_simp
                            try with_reducible rfl
                          try simp only [List.getElem_toArray, List.getElem_cons_succ, List.getElem_cons_zero, Act.put, List.setIfInBounds_toArray, List.set_cons_zero, List.set_cons_succ]
                          refine wpAnyH_take (i := 2) (v := undef) rfl (by kernel_rfl) (by kernel_rfl) (by kernel_rfl) (fun _ _ _ h => h) (Or.inr ⟨by rfl, rfl⟩) hHeld ?_
                          try simp only [List.getElem_toArray, List.getElem_cons_succ, List.getElem_cons_zero, Act.put, List.setIfInBounds_toArray, List.set_cons_zero, List.set_cons_succ]
                          refine wpAnyH_take (i := 3) (v := undef) rfl (by kernel_rfl) (by kernel_rfl) (by kernel_rfl) (fun _ _ _ h => h) (Or.inr ⟨by rfl, rfl⟩) hHeld ?_
                          try simp only [List.getElem_toArray, List.getElem_cons_succ, List.getElem_cons_zero, Act.put, List.setIfInBounds_toArray, List.set_cons_zero, List.set_cons_succ]
                          refine wpAnyH_take (i := 4) (v := undef) rfl (by kernel_rfl) (by kernel_rfl) (by kernel_rfl) (fun _ _ _ h => h) (Or.inr ⟨by rfl, rfl⟩) hHeld ?_
                          try simp only [List.getElem_toArray, List.getElem_cons_succ, List.getElem_cons_zero, Act.put, List.setIfInBounds_toArray, List.set_cons_zero, List.set_cons_succ]
                          refine wpAnyH_take (i := 5) (v := undef) rfl (by kernel_rfl) (by kernel_rfl) (by kernel_rfl) (fun _ _ _ h => h) (Or.inr ⟨by rfl, rfl⟩) hHeld ?_
                          try simp only [List.getElem_toArray, List.getElem_cons_succ, List.getElem_cons_zero, Act.put, List.setIfInBounds_toArray, List.set_cons_zero, List.set_cons_succ]
                          refine wpAnyH_take (i := 6) (v := undef) rfl (by kernel_rfl) (by kernel_rfl) (by kernel_rfl) (fun _ _ _ h => h) (Or.inr ⟨by rfl, rfl⟩) hHeld ?_
                          try simp only [List.getElem_toArray, List.getElem_cons_succ, List.getElem_cons_zero, Act.put, List.setIfInBounds_toArray, List.set_cons_zero, List.set_cons_succ]
                          refine wpAnyH_take (i := 7) (v := undef) rfl (by kernel_rfl) (by kernel_rfl) (by kernel_rfl) (fun _ _ _ h => h) (Or.inr ⟨by rfl, rfl⟩) hHeld ?_
                          try simp only [List.getElem_toArray, List.getElem_cons_succ, List.getElem_cons_zero, Act.put, List.setIfInBounds_toArray, List.set_cons_zero, List.set_cons_succ]
                          refine wpAnyH_take (i := 8) (v := undef) rfl (by kernel_rfl) (by kernel_rfl) (by kernel_rfl) (fun _ _ _ h => h) (Or.inr ⟨by rfl, rfl⟩) hHeld ?_
                          try simp only [List.getElem_toArray, List.getElem_cons_succ, List.getElem_cons_zero, Act.put, List.setIfInBounds_toArray, List.set_cons_zero, List.set_cons_succ]
                          refine wpAnyH_take (i := 9) (v := undef) rfl (by kernel_rfl) (by kernel_rfl) (by kernel_rfl) (fun _ _ _ h => h) (Or.inr ⟨by rfl, rfl⟩) hHeld ?_
                          try simp only [List.getElem_toArray, List.getElem_cons_succ, List.getElem_cons_zero, Act.put, List.setIfInBounds_toArray, List.set_cons_zero, List.set_cons_succ]
                          refine wpAnyH_take (i := 10) (v := undef) rfl (by kernel_rfl) (by kernel_rfl) (by kernel_rfl) (fun _ _ _ h => h) (Or.inr ⟨by rfl, rfl⟩) hHeld ?_
                          try simp only [List.getElem_toArray, List.getElem_cons_succ, List.getElem_cons_zero, Act.put, List.setIfInBounds_toArray, List.set_cons_zero, List.set_cons_succ]
                          refine wpAnyH_take (i := 11) (v := undef) rfl (by kernel_rfl) (by kernel_rfl) (by kernel_rfl) (fun _ _ _ h => h) (Or.inr ⟨by rfl, rfl⟩) hHeld ?_
                          try simp only [List.getElem_toArray, List.getElem_cons_succ, List.getElem_cons_zero, Act.put, List.setIfInBounds_toArray, List.set_cons_zero, List.set_cons_succ]
                          refine wpAnyH_take (i := 12) (v := undef) rfl (by kernel_rfl) (by kernel_rfl) (by kernel_rfl) (fun _ _ _ h => h) (Or.inr ⟨by rfl, rfl⟩) hHeld ?_
                          try simp only [List.getElem_toArray, List.getElem_cons_succ, List.getElem_cons_zero, Act.put, List.setIfInBounds_toArray, List.set_cons_zero, List.set_cons_succ]
                          refine wpAnyH_take (i := 13) (v := undef) rfl (by kernel_rfl) (by kernel_rfl) (by kernel_rfl) (fun _ _ _ h => h) (Or.inr ⟨by rfl, rfl⟩) hHeld ?_
                          try simp only [List.getElem_toArray, List.getElem_cons_succ, List.getElem_cons_zero, Act.put, List.setIfInBounds_toArray, List.set_cons_zero, List.set_cons_succ]
                          refine wpAnyH_take (i := 14) (v := undef) rfl (by kernel_rfl) (by kernel_rfl) (by kernel_rfl) (fun _ _ _ h => h) (Or.inr ⟨by rfl, rfl⟩) hHeld ?_
                          try simp only [List.getElem_toArray, List.getElem_cons_succ, List.getElem_cons_zero, Act.put, List.setIfInBounds_toArray, List.set_cons_zero, List.set_cons_succ]
                          refine wpAnyH_take (i := 15) (v := undef) rfl (by kernel_rfl) (by kernel_rfl) (by kernel_rfl) (fun _ _ _ h => h) (Or.inr ⟨by rfl, rfl⟩) hHeld ?_
                          try simp only [List.getElem_toArray, List.getElem_cons_succ, List.getElem_cons_zero, Act.put, List.setIfInBounds_toArray, List.set_cons_zero, List.set_cons_succ]
                          refine wpAnyH_take (i := 16) (v := undef) rfl (by kernel_rfl) (by kernel_rfl) (by kernel_rfl) (fun _ _ _ h => h) (Or.inr ⟨by rfl, rfl⟩) hHeld ?_
                          try simp only [List.getElem_toArray, List.getElem_cons_succ, List.getElem_cons_zero, Act.put, List.setIfInBounds_toArray, List.set_cons_zero, List.set_cons_succ]
                          refine wpAnyH_take (i := 17) (v := undef) rfl (by kernel_rfl) (by kernel_rfl) (by kernel_rfl) (fun _ _ _ h => h) (Or.inr ⟨by rfl, rfl⟩) hHeld ?_
                          try simp only [List.getElem_toArray, List.getElem_cons_succ, List.getElem_cons_zero, Act.put, List.setIfInBounds_toArray, List.set_cons_zero, List.set_cons_succ]
                          refine wpAnyH_take (i := 18) (v := ?_) rfl (by kernel_rfl) (by kernel_rfl) (by kernel_rfl) (fun _ _ _ h => h) (Or.inl ⟨by rfl, ?_⟩) hHeld ?_
                          rotate_left
                          · intro w' hS'
                            (try dsimp only at hS')
                            go_simp
                            try with_reducible rfl
                          try simp only [List.getElem_toArray, List.getElem_cons_succ, List.getElem_cons_zero, Act.put, List.setIfInBounds_toArray, List.set_cons_zero, List.set_cons_succ]
                          refine wpAnyH_done (by kernel_rfl) ?_ _
                          have HBD := Lib.hid (drewN_below HBW.out 1)
                          go_wp2
                          exact ⟨⟨p + 1, bz, rfl, by go_num, hpk, HBE2.out, HBD.out⟩, by show k - ((p : Int) + 1).toNat < k - (p : Int).toNat; omega⟩
                        | true =>
                          rcases HBE with ⟨hb1, hb2⟩ | ⟨q2, v, hb1, hb2, h3, h4⟩
                          · subst hb1 hb2
                            have HBE2 : Hid (BestAt L ((L.take (p + 1)).foldl (bestF ltR out) none) (p : Int)) := by
                              obtain ⟨h, e1⟩ := HX.out
                              rw [HF.out]
                              exact .inr ⟨p, x.1, rfl, rfl, h, by rw [e1]⟩
                            go_upto_region 40 with fail
                            refine wp_region_held_drew (S := fun _ => True) (by kernel_rfl) trivial (fun hHeld => ?_)
                            refine wpAnyH_take (i := 0) (v := ?_) rfl (by kernel_rfl) (by kernel_rfl) (by kernel_rfl) (fun _ _ _ h => h) (Or.inl ⟨by rfl, ?_⟩) hHeld ?_
                            rotate_left
                            · intro w' hS'
                              (try dsimp only at hS')
                              go_simp
                              try with_reducible rfl
                            try simp only [List.getElem_toArray, List.getElem_cons_zero, Act.put, List.setIfInBounds_toArray, List.set_cons_zero, List.set_cons_succ]
                            refine wpAnyH_take (i := 1) (v := ?_) rfl (by kernel_rfl) (by kernel_rfl) (by kernel_rfl) (fun _ _ _ h => h) (Or.inl ⟨by rfl, ?_⟩) hHeld ?_
                            rotate_left
                            · intro w' hS'
                              (try dsimp only at hS')
                              go_simp
                              try with_reducible rfl
                            try simp only [List.getElem_toArray, List.getElem_cons_succ, List.getElem_cons_zero, Act.put, List.setIfInBounds_toArray, List.set_cons_zero, List.set_cons_succ]
                            refine wpAnyH_take (i := 2) (v := ?_) rfl (by kernel_rfl) (by kernel_rfl) (by kernel_rfl) (fun _ _ _ h => h) (Or.inl ⟨by rfl, ?_⟩) hHeld ?_
                            rotate_left
                            · intro w' hS'
                              (try dsimp only at hS')
                              go_simp
                              try with_reducible rfl
                            try simp only [List.getElem_toArray, List.getElem_cons_succ, List.getElem_cons_zero, Act.put, List.setIfInBounds_toArray, List.set_cons_zero, List.set_cons_succ]
                            refine wpAnyH_take (i := 3) (v := ?_) rfl (by kernel_rfl) (by kernel_rfl) (by kernel_rfl) (fun _ _ _ h => h) (Or.inl ⟨by rfl, ?_⟩) hHeld ?_
                            rotate_left
                            · intro w' hS'
                              (try dsimp only at hS')
                              go_simp
                              try with_reducible rfl
                            try simp only [List.getElem_toArray, List.getElem_cons_succ, List.getElem_cons_zero, Act.put, List.setIfInBounds_toArray, List.set_cons_zero, List.set_cons_succ]
                            refine wpAnyH_take (i := 4) (v := ?_) rfl (by kernel_rfl) (by kernel_rfl) (by kernel_rfl) (fun _ _ _ h => h) (Or.inl ⟨by rfl, ?_⟩) hHeld ?_
                            rotate_left
                            · intro w' hS'
                              (try dsimp only at hS')
                              go_simp
                              try with_reducible rfl
                            try simp only [List.getElem_toArray, List.getElem_cons_succ, List.getElem_cons_zero, Act.put, List.setIfInBounds_toArray, List.set_cons_zero, List.set_cons_succ]
                            refine wpAnyH_take (i := 5) (v := undef) rfl (by kernel_rfl) (by kernel_rfl) (by kernel_rfl) (fun _ _ _ h => h) (Or.inr ⟨by rfl, rfl⟩) hHeld ?_
                            try simp only [List.getElem_toArray, List.getElem_cons_succ, List.getElem_cons_zero, Act.put, List.setIfInBounds_toArray, List.set_cons_zero, List.set_cons_succ]
                            refine wpAnyH_take (i := 6) (v := undef) rfl (by kernel_rfl) (by kernel_rfl) (by kernel_rfl) (fun _ _ _ h => h) (Or.inr ⟨by rfl, rfl⟩) hHeld ?_
                            try simp only [List.getElem_toArray, List.getElem_cons_succ, List.getElem_cons_zero, Act.put, List.setIfInBounds_toArray, List.set_cons_zero, List.set_cons_succ]
                            refine wpAnyH_take (i := 7) (v := undef) rfl (by kernel_rfl) (by kernel_rfl) (by kernel_rfl) (fun _ _ _ h => h) (Or.inr ⟨by rfl, rfl⟩) hHeld ?_
                            try simp only [List.getElem_toArray, List.getElem_cons_succ, List.getElem_cons_zero, Act.put, List.setIfInBounds_toArray, List.set_cons_zero, List.set_cons_succ]
                            refine wpAnyH_take (i := 8) (v := undef) rfl (by kernel_rfl) (by kernel_rfl) (by kernel_rfl) (fun _ _ _ h => h) (Or.inr ⟨by rfl, rfl⟩) hHeld ?_
                            try simp only [List.getElem_toArray, List.getElem_cons_succ, List.getElem_cons_zero, Act.put, List.setIfInBounds_toArray, List.set_cons_zero, List.set_cons_succ]
                            refine wpAnyH_take (i := 9) (v := undef) rfl (by kernel_rfl) (by kernel_rfl) (by kernel_rfl) (fun _ _ _ h => h) (Or.inr ⟨by rfl, rfl⟩) hHeld ?_
                            try simp only [List.getElem_toArray, List.getElem_cons_succ, List.getElem_cons_zero, Act.put, List.setIfInBounds_toArray, List.set_cons_zero, List.set_cons_succ]
                            refine wpAnyH_take (i := 10) (v := undef) rfl (by kernel_rfl) (by kernel_rfl) (by kernel_rfl) (fun _ _ _ h => h) (Or.inr ⟨by rfl, rfl⟩) hHeld ?_
                            try simp only [List.getElem_toArray, List.getElem_cons_succ, List.getElem_cons_zero, Act.put, List.setIfInBounds_toArray, List.set_cons_zero, List.set_cons_succ]
                            refine wpAnyH_take (i := 11) (v := undef) rfl (by kernel_rfl) (by kernel_rfl) (by kernel_rfl) (fun _ _ _ h => h) (Or.inr ⟨by rfl, rfl⟩) hHeld ?_
                            try simp only [List.getElem_toArray, List.getElem_cons_succ, List.getElem_cons_zero, Act.put, List.setIfInBounds_toArray, List.set_cons_zero, List.set_cons_succ]
                            refine wpAnyH_take (i := 12) (v := undef) rfl (by kernel_rfl) (by kernel_rfl) (by kernel_rfl) (fun _ _ _ h => h) (Or.inr ⟨by rfl, rfl⟩) hHeld ?_
                            try simp only [List.getElem_toArray, List.getElem_cons_succ, List.getElem_cons_zero, Act.put, List.setIfInBounds_toArray, List.set_cons_zero, List.set_cons_succ]
                            refine wpAnyH_take (i := 13) (v := undef) rfl (by kernel_rfl) (by kernel_rfl) (by kernel_rfl) (fun _ _ _ h => h) (Or.inr ⟨by rfl, rfl⟩) hHeld ?_
                            try simp only [List.getElem_toArray, List.getElem_cons_succ, List.getElem_cons_zero, Act.put, List.setIfInBounds_toArray, List.set_cons_zero, List.set_cons_succ]
                            refine wpAnyH_take (i := 14) (v := undef) rfl (by kernel_rfl) (by kernel_rfl) (by kernel_rfl) (fun _ _ _ h => h) (Or.inr ⟨by rfl, rfl⟩) hHeld ?_
                            try simp only [List.getElem_toArray, List.getElem_cons_succ, List.getElem_cons_zero, Act.put, List.setIfInBounds_toArray, List.set_cons_zero, List.set_cons_succ]
                            refine wpAnyH_take (i := 15) (v := undef) rfl (by kernel_rfl) (by kernel_rfl) (by kernel_rfl) (fun _ _ _ h => h) (Or.inr ⟨by rfl, rfl⟩) hHeld ?_
                            try simp only [List.getElem_toArray, List.getElem_cons_succ, List.getElem_cons_zero, Act.put, List.setIfInBounds_toArray, List.set_cons_zero, List.set_cons_succ]
                            refine wpAnyH_take (i := 16) (v := undef) rfl (by kernel_rfl) (by kernel_rfl) (by kernel_rfl) (fun _ _ _ h => h) (Or.inr ⟨by rfl, rfl⟩) hHeld ?_
                            try simp only [List.getElem_toArray, List.getElem_cons_succ, List.getElem_cons_zero, Act.put, List.setIfInBounds_toArray, List.set_cons_zero, List.set_cons_succ]
                            refine wpAnyH_take (i := 17) (v := ?_) rfl (by kernel_rfl) (by kernel_rfl) (by kernel_rfl) (fun _ _ _ h => h) (Or.inl ⟨by rfl, ?_⟩) hHeld ?_
                            rotate_left
                            · intro w' hS'
                              (try dsimp only at hS')
                              go_simp
                              try with_reducible rfl
                            try simp only [List.getElem_toArray, List.getElem_cons_succ, List.getElem_cons_zero, Act.put, List.setIfInBounds_toArray, List.set_cons_zero, List.set_cons_succ]
                            refine wpAnyH_take (i := 18) (v := ?_) rfl (by kernel_rfl) (by kernel_rfl) (by kernel_rfl) (fun _ _ _ h => h) (Or.inl ⟨by rfl, ?_⟩) hHeld ?_
                            rotate_left
                            · intro w' hS'
                              (try dsimp only at hS')
                              go_simp
                              try with_reducible rfl
                            try simp only [List.getElem_toArray, List.getElem_cons_succ, List.getElem_cons_zero, Act.put, List.setIfInBounds_toArray, List.set_cons_zero, List.set_cons_succ]
                            refine wpAnyH_done (by kernel_rfl) ?_ _
                            have HBD := Lib.hid (drewN_below HBW.out 1)
                            go_wp2
                            exact ⟨⟨p + 1, (p : Int), rfl, by go_num, hpk, HBE2.out, HBD.out⟩, by show k - ((p : Int) + 1).toNat < k - (p : Int).toNat; omega⟩
                          · subst hb1 hb2
                            have hq2 : q2 < k := by rw [← HLN.out]; exact h3
                            obtain ⟨tz, tzc, hrowz⟩ := HROWS.out q2 h3
                            obtain ⟨z, hz⟩ : ∃ x, L[q2] = x := ⟨_, rfl⟩
                            rw [hz] at hrowz h4
                            have HZ : Hid (∃ h : q2 < L.length, L[q2] = z) := ⟨h3, hz⟩
                            subst h4
                            have hbig : Below w.heap.size w wy := below_trans HBR.out HBW.out
                            obtain ⟨d1, d2⟩ := rf_cells (HROWX.out wy HBY.out).1
                            obtain ⟨d3, d4⟩ := rf_cells (hrowz wy hbig).1
                            have hbw : b < wy.heap.size := Nat.lt_of_lt_of_le hbs hbig.size
                            have hS0 : wy.drew.cell? ⟨b, off + p * 3, none⟩ = some (.string x.1.1) ∧ wy.drew.cell? ⟨b, off + p * 3 + 1, none⟩ = some (.int .i64 x.1.2) ∧ wy.drew.cell? ⟨b, off + q2 * 3, none⟩ = some (.string z.1.1) ∧ wy.drew.cell? ⟨b, off + q2 * 3 + 1, none⟩ = some (.int .i64 z.1.2) := ⟨d1, d2, d3, d4⟩
                            obtain ⟨cz, hcz⟩ : ∃ y, cmpR x.1.1 z.1.1 x.1.2 z.1.2 = y := ⟨_, rfl⟩
                            have HCM : Hid (∀ W, Calls Try.prog 35 #[.agg #[.string x.1.1, .int .i64 x.1.2], .agg #[.string z.1.1, .int .i64 z.1.2]] W fun e w' => e = .returned (.int .i64 cz) ∧ Below W.heap.size W w') := Lib.hid fun W => by rw [← hcz]; exact doccmp_any _ _ _ _ W
                            have hlt : ltR x.1 z.1 = decide (cz < 0) := by unfold ltR; rw [hcz]
                            have HKEEP : Hid (∀ W, Below wy.drew.heap.size wy.drew W → W.cell? ⟨b, off + p * 3, none⟩ = some (.string x.1.1) ∧ W.cell? ⟨b, off + p * 3 + 1, none⟩ = some (.int .i64 x.1.2) ∧ W.cell? ⟨b, off + q2 * 3, none⟩ = some (.string z.1.1) ∧ W.cell? ⟨b, off + q2 * 3 + 1, none⟩ = some (.int .i64 z.1.2)) := Lib.hid fun W hW => ⟨cell_later (w := wy.drew) hW hbw d1, cell_later (w := wy.drew) hW hbw d2, cell_later (w := wy.drew) hW hbw d3, cell_later (w := wy.drew) hW hbw d4⟩
                            obtain ⟨bl, hbl⟩ : ∃ y, decide (cz < 0) = y := ⟨_, rfl⟩
                            have HBE2 : Hid (BestAt L ((L.take (p + 1)).foldl (bestF ltR out) none) (if bl then (p : Int) else (q2 : Int))) := by
                              obtain ⟨h, e1⟩ := HX.out
                              obtain ⟨h5, e5⟩ := HZ.out
                              rw [HF.out]
                              have hbt : bett ltR (some z.1) x.1 = bl := by
                                show ltR x.1 z.1 = bl
                                rw [hlt, hbl]
                              rw [hbt]
                              clear hbt hbl
                              cases bl with
                              | true => exact .inr ⟨p, x.1, rfl, rfl, h, by rw [e1]⟩
                              | false => exact .inr ⟨q2, z.1, rfl, rfl, h5, by rw [e5]⟩
                            clear hrowz hz hbig d1 d2 d3 d4 hcz hlt h3
                            cases bl with
                            | true =>
                              have hcl : cz < 0 := of_decide_eq_true hbl
                              clear hbl
                              go_upto_region 40 with fail
                              refine wp_region_held_drew (S := fun w' => w'.cell? ⟨b, off + p * 3, none⟩ = some (.string x.1.1) ∧ w'.cell? ⟨b, off + p * 3 + 1, none⟩ = some (.int .i64 x.1.2) ∧ w'.cell? ⟨b, off + q2 * 3, none⟩ = some (.string z.1.1) ∧ w'.cell? ⟨b, off + q2 * 3 + 1, none⟩ = some (.int .i64 z.1.2)) (by kernel_rfl) hS0 (fun hHeld => ?_)
                              refine wpAnyH_take (i := 0) (v := ?_) rfl (by kernel_rfl) (by kernel_rfl) (by kernel_rfl) (fun _ _ _ h => h) (Or.inl ⟨by rfl, ?_⟩) hHeld ?_
                              rotate_left
                              · intro w' hS'
                                (try dsimp only at hS')
                                go_simp
                                try with_reducible rfl
                              try simp only [List.getElem_toArray, List.getElem_cons_zero, Act.put, List.setIfInBounds_toArray, List.set_cons_zero, List.set_cons_succ]
                              refine wpAnyH_take (i := 1) (v := ?_) rfl (by kernel_rfl) (by kernel_rfl) (by kernel_rfl) (fun _ _ _ h => h) (Or.inl ⟨by rfl, ?_⟩) hHeld ?_
                              rotate_left
                              · intro w' hS'
                                (try dsimp only at hS')
                                go_simp
                                try with_reducible rfl
                              try simp only [List.getElem_toArray, List.getElem_cons_succ, List.getElem_cons_zero, Act.put, List.setIfInBounds_toArray, List.set_cons_zero, List.set_cons_succ]
                              refine wpAnyH_take (i := 2) (v := ?_) rfl (by kernel_rfl) (by kernel_rfl) (by kernel_rfl) (fun _ _ _ h => h) (Or.inl ⟨by rfl, ?_⟩) hHeld ?_
                              rotate_left
                              · intro w' hS'
                                (try dsimp only at hS')
                                go_simp
                                try with_reducible rfl
                              try simp only [List.getElem_toArray, List.getElem_cons_succ, List.getElem_cons_zero, Act.put, List.setIfInBounds_toArray, List.set_cons_zero, List.set_cons_succ]
                              refine wpAnyH_take (i := 3) (v := ?_) rfl (by kernel_rfl) (by kernel_rfl) (by kernel_rfl) (fun _ _ _ h => h) (Or.inl ⟨by rfl, ?_⟩) hHeld ?_
                              rotate_left
                              · intro w' hS'
                                (try dsimp only at hS')
                                go_simp
                                try with_reducible rfl
                              try simp only [List.getElem_toArray, List.getElem_cons_succ, List.getElem_cons_zero, Act.put, List.setIfInBounds_toArray, List.set_cons_zero, List.set_cons_succ]
                              refine wpAnyH_take (i := 4) (v := ?_) rfl (by kernel_rfl) (by kernel_rfl) (by kernel_rfl) (fun _ _ _ h => h) (Or.inl ⟨by rfl, ?_⟩) hHeld ?_
                              rotate_left
                              · intro w' hS'
                                (try dsimp only at hS')
                                go_simp
                                try with_reducible rfl
                              try simp only [List.getElem_toArray, List.getElem_cons_succ, List.getElem_cons_zero, Act.put, List.setIfInBounds_toArray, List.set_cons_zero, List.set_cons_succ]
                              refine wpAnyH_take (i := 5) (v := ?_) rfl (by kernel_rfl) (by kernel_rfl) (by kernel_rfl) (fun _ _ _ h => h) (Or.inl ⟨by rfl, ?_⟩) hHeld ?_
                              rotate_left
                              · intro w' hS'
                                (try dsimp only at hS')
                                go_simp
                                try with_reducible rfl
                              try simp only [List.getElem_toArray, List.getElem_cons_succ, List.getElem_cons_zero, Act.put, List.setIfInBounds_toArray, List.set_cons_zero, List.set_cons_succ]
                              refine wpAnyH_take (i := 6) (v := ?_) rfl (by kernel_rfl) (by kernel_rfl) (by kernel_rfl) (fun _ _ _ h => h) (Or.inl ⟨by rfl, ?_⟩) hHeld ?_
                              rotate_left
                              · intro w' hS'
                                (try dsimp only at hS')
                                go_simp
                                try with_reducible rfl
                              try simp only [List.getElem_toArray, List.getElem_cons_succ, List.getElem_cons_zero, Act.put, List.setIfInBounds_toArray, List.set_cons_zero, List.set_cons_succ]
                              refine wpAnyH_take (i := 7) (v := ?_) rfl (by kernel_rfl) (by kernel_rfl) (by kernel_rfl) (fun _ _ _ h => h) (Or.inl ⟨by rfl, ?_⟩) hHeld ?_
                              rotate_left
                              · intro w' hS'
                                (try dsimp only at hS')
                                go_simp
                                try with_reducible rfl
                              try simp only [List.getElem_toArray, List.getElem_cons_succ, List.getElem_cons_zero, Act.put, List.setIfInBounds_toArray, List.set_cons_zero, List.set_cons_succ]
                              refine wpAnyH_take (i := 8) (v := ?_) rfl (by kernel_rfl) (by kernel_rfl) (by kernel_rfl) (fun _ _ _ h => h) (Or.inl ⟨by rfl, ?_⟩) hHeld ?_
                              rotate_left
                              · intro w' hS'
                                (try dsimp only at hS')
                                go_simp
                                try with_reducible rfl
                              try simp only [List.getElem_toArray, List.getElem_cons_succ, List.getElem_cons_zero, Act.put, List.setIfInBounds_toArray, List.set_cons_zero, List.set_cons_succ]
                              refine wpAnyH_take (i := 9) (v := ?_) rfl (by kernel_rfl) (by kernel_rfl) (by kernel_rfl) (fun _ _ _ h => h) (Or.inl ⟨by rfl, ?_⟩) hHeld ?_
                              rotate_left
                              · intro w' hS'
                                (try dsimp only at hS')
                                go_simp
                                try with_reducible rfl
                              try simp only [List.getElem_toArray, List.getElem_cons_succ, List.getElem_cons_zero, Act.put, List.setIfInBounds_toArray, List.set_cons_zero, List.set_cons_succ]
                              refine wpAnyH_take (i := 10) (v := ?_) rfl (by kernel_rfl) (by kernel_rfl) (by kernel_rfl) (fun _ _ _ h => h) (Or.inl ⟨by rfl, ?_⟩) hHeld ?_
                              rotate_left
                              · intro w' hS'
                                (try dsimp only at hS')
                                go_simp
                                try with_reducible rfl
                              try simp only [List.getElem_toArray, List.getElem_cons_succ, List.getElem_cons_zero, Act.put, List.setIfInBounds_toArray, List.set_cons_zero, List.set_cons_succ]
                              refine wpAnyH_take (i := 11) (v := ?_) rfl (by kernel_rfl) (by kernel_rfl) (by kernel_rfl) (fun _ _ _ h => h) (Or.inl ⟨by rfl, ?_⟩) hHeld ?_
                              rotate_left
                              · intro w' hS'
                                (try dsimp only at hS')
                                go_simp
                                try with_reducible rfl
                              try simp only [List.getElem_toArray, List.getElem_cons_succ, List.getElem_cons_zero, Act.put, List.setIfInBounds_toArray, List.set_cons_zero, List.set_cons_succ]
                              refine wpAnyH_take (i := 12) (v := ?_) rfl (by kernel_rfl) (by kernel_rfl) (by kernel_rfl) (fun _ _ _ h => h) (Or.inl ⟨by rfl, ?_⟩) hHeld ?_
                              rotate_left
                              · intro w' hS'
                                (try dsimp only at hS')
                                go_simp
                                try with_reducible rfl
                              try simp only [List.getElem_toArray, List.getElem_cons_succ, List.getElem_cons_zero, Act.put, List.setIfInBounds_toArray, List.set_cons_zero, List.set_cons_succ]
                              refine wpAnyH_take (i := 13) (v := ?_) rfl (by kernel_rfl) (by kernel_rfl) (by kernel_rfl) (fun _ _ _ h => h) (Or.inl ⟨by rfl, ?_⟩) hHeld ?_
                              rotate_left
                              · intro w' hS'
                                (try dsimp only at hS')
                                go_simp
                                try with_reducible rfl
                              try simp only [List.getElem_toArray, List.getElem_cons_succ, List.getElem_cons_zero, Act.put, List.setIfInBounds_toArray, List.set_cons_zero, List.set_cons_succ]
                              refine wpAnyH_take (i := 14) (v := ?_) rfl (by kernel_rfl) (by kernel_rfl) (by kernel_rfl) (fun _ _ _ h => h) (Or.inl ⟨by rfl, ?_⟩) hHeld ?_
                              rotate_left
                              · intro w' hS'
                                (try dsimp only at hS')
                                go_simp
                                try with_reducible rfl
                              try simp only [List.getElem_toArray, List.getElem_cons_succ, List.getElem_cons_zero, Act.put, List.setIfInBounds_toArray, List.set_cons_zero, List.set_cons_succ]
                              refine wpAnyH_ready (rs := [15]) (by kernel_rfl) (by simp) (AllReadyH.cons rfl (fun K hK => ?_) AllReadyH.nil)
                              go_simp
                              go_wp2_with (go_at_call 35; refine (HCM.out _).mono ?_; rintro _ w4 ⟨rfl, hb4⟩; have HB4 := Lib.hid hb4; clear hb4)
                              refine hK.out _ _ (HKEEP.out _ HB4.out) (fun hHeld => ?_)
                              try simp only [List.getElem_toArray, List.getElem_cons_succ, List.getElem_cons_zero, Act.put, List.setIfInBounds_toArray, List.set_cons_zero, List.set_cons_succ]
                              clear hK K
                              refine wpAnyH_take (i := 16) (v := ?_) rfl (by kernel_rfl) (by kernel_rfl) (by kernel_rfl) (fun _ _ _ h => h) (Or.inl ⟨by rfl, ?_⟩) hHeld ?_
                              rotate_left
                              · intro w' hS'
                                (try dsimp only at hS')
                                go_simp
                                try with_reducible rfl
                              try simp only [List.getElem_toArray, List.getElem_cons_succ, List.getElem_cons_zero, Act.put, List.setIfInBounds_toArray, List.set_cons_zero, List.set_cons_succ]
                              refine wpAnyH_take (i := 17) (v := ?_) rfl (by kernel_rfl) (by kernel_rfl) (by kernel_rfl) (fun _ _ _ h => h) (Or.inl ⟨by rfl, ?_⟩) hHeld ?_
                              rotate_left
                              · intro w' hS'
                                (try dsimp only at hS')
                                go_simp
                                try with_reducible rfl
                              try simp only [List.getElem_toArray, List.getElem_cons_succ, List.getElem_cons_zero, Act.put, List.setIfInBounds_toArray, List.set_cons_zero, List.set_cons_succ]
                              refine wpAnyH_take (i := 18) (v := ?_) rfl (by kernel_rfl) (by kernel_rfl) (by kernel_rfl) (fun _ _ _ h => h) (Or.inl ⟨by rfl, ?_⟩) hHeld ?_
                              rotate_left
                              · intro w' hS'
                                (try dsimp only at hS')
                                go_simp
                                try with_reducible rfl
                              try simp only [List.getElem_toArray, List.getElem_cons_succ, List.getElem_cons_zero, Act.put, List.setIfInBounds_toArray, List.set_cons_zero, List.set_cons_succ]
                              refine wpAnyH_done (by kernel_rfl) ?_ _
                              have HBD := Lib.hid (below_trans (drewN_below HBW.out 1) HB4.out)
                              go_wp2
                              exact ⟨⟨p + 1, (p : Int), rfl, by go_num, hpk, HBE2.out, HBD.out⟩, by show k - ((p : Int) + 1).toNat < k - (p : Int).toNat; omega⟩
                            | false =>
                              have hcl : ¬ cz < 0 := of_decide_eq_false hbl
                              clear hbl
                              go_upto_region 40 with fail
                              refine wp_region_held_drew (S := fun w' => w'.cell? ⟨b, off + p * 3, none⟩ = some (.string x.1.1) ∧ w'.cell? ⟨b, off + p * 3 + 1, none⟩ = some (.int .i64 x.1.2) ∧ w'.cell? ⟨b, off + q2 * 3, none⟩ = some (.string z.1.1) ∧ w'.cell? ⟨b, off + q2 * 3 + 1, none⟩ = some (.int .i64 z.1.2)) (by kernel_rfl) hS0 (fun hHeld => ?_)
                              refine wpAnyH_take (i := 0) (v := ?_) rfl (by kernel_rfl) (by kernel_rfl) (by kernel_rfl) (fun _ _ _ h => h) (Or.inl ⟨by rfl, ?_⟩) hHeld ?_
                              rotate_left
                              · intro w' hS'
                                (try dsimp only at hS')
                                go_simp
                                try with_reducible rfl
                              try simp only [List.getElem_toArray, List.getElem_cons_zero, Act.put, List.setIfInBounds_toArray, List.set_cons_zero, List.set_cons_succ]
                              refine wpAnyH_take (i := 1) (v := ?_) rfl (by kernel_rfl) (by kernel_rfl) (by kernel_rfl) (fun _ _ _ h => h) (Or.inl ⟨by rfl, ?_⟩) hHeld ?_
                              rotate_left
                              · intro w' hS'
                                (try dsimp only at hS')
                                go_simp
                                try with_reducible rfl
                              try simp only [List.getElem_toArray, List.getElem_cons_succ, List.getElem_cons_zero, Act.put, List.setIfInBounds_toArray, List.set_cons_zero, List.set_cons_succ]
                              refine wpAnyH_take (i := 2) (v := ?_) rfl (by kernel_rfl) (by kernel_rfl) (by kernel_rfl) (fun _ _ _ h => h) (Or.inl ⟨by rfl, ?_⟩) hHeld ?_
                              rotate_left
                              · intro w' hS'
                                (try dsimp only at hS')
                                go_simp
                                try with_reducible rfl
                              try simp only [List.getElem_toArray, List.getElem_cons_succ, List.getElem_cons_zero, Act.put, List.setIfInBounds_toArray, List.set_cons_zero, List.set_cons_succ]
                              refine wpAnyH_take (i := 3) (v := ?_) rfl (by kernel_rfl) (by kernel_rfl) (by kernel_rfl) (fun _ _ _ h => h) (Or.inl ⟨by rfl, ?_⟩) hHeld ?_
                              rotate_left
                              · intro w' hS'
                                (try dsimp only at hS')
                                go_simp
                                try with_reducible rfl
                              try simp only [List.getElem_toArray, List.getElem_cons_succ, List.getElem_cons_zero, Act.put, List.setIfInBounds_toArray, List.set_cons_zero, List.set_cons_succ]
                              refine wpAnyH_take (i := 4) (v := ?_) rfl (by kernel_rfl) (by kernel_rfl) (by kernel_rfl) (fun _ _ _ h => h) (Or.inl ⟨by rfl, ?_⟩) hHeld ?_
                              rotate_left
                              · intro w' hS'
                                (try dsimp only at hS')
                                go_simp
                                try with_reducible rfl
                              try simp only [List.getElem_toArray, List.getElem_cons_succ, List.getElem_cons_zero, Act.put, List.setIfInBounds_toArray, List.set_cons_zero, List.set_cons_succ]
                              refine wpAnyH_take (i := 5) (v := ?_) rfl (by kernel_rfl) (by kernel_rfl) (by kernel_rfl) (fun _ _ _ h => h) (Or.inl ⟨by rfl, ?_⟩) hHeld ?_
                              rotate_left
                              · intro w' hS'
                                (try dsimp only at hS')
                                go_simp
                                try with_reducible rfl
                              try simp only [List.getElem_toArray, List.getElem_cons_succ, List.getElem_cons_zero, Act.put, List.setIfInBounds_toArray, List.set_cons_zero, List.set_cons_succ]
                              refine wpAnyH_take (i := 6) (v := ?_) rfl (by kernel_rfl) (by kernel_rfl) (by kernel_rfl) (fun _ _ _ h => h) (Or.inl ⟨by rfl, ?_⟩) hHeld ?_
                              rotate_left
                              · intro w' hS'
                                (try dsimp only at hS')
                                go_simp
                                try with_reducible rfl
                              try simp only [List.getElem_toArray, List.getElem_cons_succ, List.getElem_cons_zero, Act.put, List.setIfInBounds_toArray, List.set_cons_zero, List.set_cons_succ]
                              refine wpAnyH_take (i := 7) (v := ?_) rfl (by kernel_rfl) (by kernel_rfl) (by kernel_rfl) (fun _ _ _ h => h) (Or.inl ⟨by rfl, ?_⟩) hHeld ?_
                              rotate_left
                              · intro w' hS'
                                (try dsimp only at hS')
                                go_simp
                                try with_reducible rfl
                              try simp only [List.getElem_toArray, List.getElem_cons_succ, List.getElem_cons_zero, Act.put, List.setIfInBounds_toArray, List.set_cons_zero, List.set_cons_succ]
                              refine wpAnyH_take (i := 8) (v := ?_) rfl (by kernel_rfl) (by kernel_rfl) (by kernel_rfl) (fun _ _ _ h => h) (Or.inl ⟨by rfl, ?_⟩) hHeld ?_
                              rotate_left
                              · intro w' hS'
                                (try dsimp only at hS')
                                go_simp
                                try with_reducible rfl
                              try simp only [List.getElem_toArray, List.getElem_cons_succ, List.getElem_cons_zero, Act.put, List.setIfInBounds_toArray, List.set_cons_zero, List.set_cons_succ]
                              refine wpAnyH_take (i := 9) (v := ?_) rfl (by kernel_rfl) (by kernel_rfl) (by kernel_rfl) (fun _ _ _ h => h) (Or.inl ⟨by rfl, ?_⟩) hHeld ?_
                              rotate_left
                              · intro w' hS'
                                (try dsimp only at hS')
                                go_simp
                                try with_reducible rfl
                              try simp only [List.getElem_toArray, List.getElem_cons_succ, List.getElem_cons_zero, Act.put, List.setIfInBounds_toArray, List.set_cons_zero, List.set_cons_succ]
                              refine wpAnyH_take (i := 10) (v := ?_) rfl (by kernel_rfl) (by kernel_rfl) (by kernel_rfl) (fun _ _ _ h => h) (Or.inl ⟨by rfl, ?_⟩) hHeld ?_
                              rotate_left
                              · intro w' hS'
                                (try dsimp only at hS')
                                go_simp
                                try with_reducible rfl
                              try simp only [List.getElem_toArray, List.getElem_cons_succ, List.getElem_cons_zero, Act.put, List.setIfInBounds_toArray, List.set_cons_zero, List.set_cons_succ]
                              refine wpAnyH_take (i := 11) (v := ?_) rfl (by kernel_rfl) (by kernel_rfl) (by kernel_rfl) (fun _ _ _ h => h) (Or.inl ⟨by rfl, ?_⟩) hHeld ?_
                              rotate_left
                              · intro w' hS'
                                (try dsimp only at hS')
                                go_simp
                                try with_reducible rfl
                              try simp only [List.getElem_toArray, List.getElem_cons_succ, List.getElem_cons_zero, Act.put, List.setIfInBounds_toArray, List.set_cons_zero, List.set_cons_succ]
                              refine wpAnyH_take (i := 12) (v := ?_) rfl (by kernel_rfl) (by kernel_rfl) (by kernel_rfl) (fun _ _ _ h => h) (Or.inl ⟨by rfl, ?_⟩) hHeld ?_
                              rotate_left
                              · intro w' hS'
                                (try dsimp only at hS')
                                go_simp
                                try with_reducible rfl
                              try simp only [List.getElem_toArray, List.getElem_cons_succ, List.getElem_cons_zero, Act.put, List.setIfInBounds_toArray, List.set_cons_zero, List.set_cons_succ]
                              refine wpAnyH_take (i := 13) (v := ?_) rfl (by kernel_rfl) (by kernel_rfl) (by kernel_rfl) (fun _ _ _ h => h) (Or.inl ⟨by rfl, ?_⟩) hHeld ?_
                              rotate_left
                              · intro w' hS'
                                (try dsimp only at hS')
                                go_simp
                                try with_reducible rfl
                              try simp only [List.getElem_toArray, List.getElem_cons_succ, List.getElem_cons_zero, Act.put, List.setIfInBounds_toArray, List.set_cons_zero, List.set_cons_succ]
                              refine wpAnyH_take (i := 14) (v := ?_) rfl (by kernel_rfl) (by kernel_rfl) (by kernel_rfl) (fun _ _ _ h => h) (Or.inl ⟨by rfl, ?_⟩) hHeld ?_
                              rotate_left
                              · intro w' hS'
                                (try dsimp only at hS')
                                go_simp
                                try with_reducible rfl
                              try simp only [List.getElem_toArray, List.getElem_cons_succ, List.getElem_cons_zero, Act.put, List.setIfInBounds_toArray, List.set_cons_zero, List.set_cons_succ]
                              refine wpAnyH_ready (rs := [15]) (by kernel_rfl) (by simp) (AllReadyH.cons rfl (fun K hK => ?_) AllReadyH.nil)
                              go_simp
                              go_wp2_with (go_at_call 35; refine (HCM.out _).mono ?_; rintro _ w4 ⟨rfl, hb4⟩; have HB4 := Lib.hid hb4; clear hb4)
                              refine hK.out _ _ (HKEEP.out _ HB4.out) (fun hHeld => ?_)
                              try simp only [List.getElem_toArray, List.getElem_cons_succ, List.getElem_cons_zero, Act.put, List.setIfInBounds_toArray, List.set_cons_zero, List.set_cons_succ]
                              clear hK K
                              refine wpAnyH_take (i := 16) (v := ?_) rfl (by kernel_rfl) (by kernel_rfl) (by kernel_rfl) (fun _ _ _ h => h) (Or.inl ⟨by rfl, ?_⟩) hHeld ?_
                              rotate_left
                              · intro w' hS'
                                (try dsimp only at hS')
                                go_simp
                                try with_reducible rfl
                              try simp only [List.getElem_toArray, List.getElem_cons_succ, List.getElem_cons_zero, Act.put, List.setIfInBounds_toArray, List.set_cons_zero, List.set_cons_succ]
                              refine wpAnyH_take (i := 17) (v := ?_) rfl (by kernel_rfl) (by kernel_rfl) (by kernel_rfl) (fun _ _ _ h => h) (Or.inl ⟨by rfl, ?_⟩) hHeld ?_
                              rotate_left
                              · intro w' hS'
                                (try dsimp only at hS')
                                go_simp
                                try with_reducible rfl
                              try simp only [List.getElem_toArray, List.getElem_cons_succ, List.getElem_cons_zero, Act.put, List.setIfInBounds_toArray, List.set_cons_zero, List.set_cons_succ]
                              refine wpAnyH_take (i := 18) (v := ?_) rfl (by kernel_rfl) (by kernel_rfl) (by kernel_rfl) (fun _ _ _ h => h) (Or.inl ⟨by rfl, ?_⟩) hHeld ?_
                              rotate_left
                              · intro w' hS'
                                (try dsimp only at hS')
                                go_simp
                                try with_reducible rfl
                              try simp only [List.getElem_toArray, List.getElem_cons_succ, List.getElem_cons_zero, Act.put, List.setIfInBounds_toArray, List.set_cons_zero, List.set_cons_succ]
                              refine wpAnyH_done (by kernel_rfl) ?_ _
                              have HBD := Lib.hid (below_trans (drewN_below HBW.out 1) HB4.out)
                              go_wp2
                              exact ⟨⟨p + 1, (q2 : Int), rfl, by go_num, hpk, HBE2.out, HBD.out⟩, by show k - ((p : Int) + 1).toNat < k - (p : Int).toNat; omega⟩
                  · have hp' : p = k := by omega
                    subst hp'
                    have HBE := HBEST.out
                    rw [← HLN.out, List.take_length] at HBE
                    have hbe : BestAt L (pick ltR L out) bz := HBE
                    clear HBE HBEST
                    rcases hbe with ⟨hb1, hb2⟩ | ⟨q, v, hb1, hb2, h3, h4⟩
                    · subst hb2
                      have HE2 : Hid (ordR ltR L = ([], 331)) := HRD.out out HRE.out (by rw [HMO.out, HLN.out]; exact hmk2) hb1
                      clear hb1
                      go_wp2
                      exact HEND.out _ _ HE2.out (below_trans HBR.out HBX.out)
                    · subst hb2
                      have hqp : q < p := by rw [← HLN.out]; exact h3
                      obtain ⟨tz, tzc, hrowz⟩ := HROWS.out q h3
                      obtain ⟨z, hz⟩ : ∃ x, L[q] = x := ⟨_, rfl⟩
                      rw [hz] at hrowz h4
                      subst h4
                      have hbig : Below w.heap.size w wx := below_trans HBR.out HBX.out
                      have HCZ := Lib.hid (hrowz wx hbig).1
                      have HRE2 : Hid (Reach ltR L (out ++ [z.1])) := Reach.snoc HRE.out hb1
                      obtain ⟨G, hG⟩ : ∃ y, wx.heap.size = y := ⟨_, rfl⟩
                      obtain ⟨w5, hw5⟩ : ∃ y, wx.alloc (.cells #[.string z.1.1, .int .i64 z.1.2] 25) = y := ⟨_, rfl⟩
                      have hb5 : Below wx.heap.size wx w5 := by rw [← hw5]; exact below_alloc _
                      have HB5 := Lib.hid (below_trans hbig hb5)
                      have HC5 : Hid (CellsAt w5 rfC G 0 z.1) := by rw [← hw5, ← hG]; exact RowAt.rf (RowAt.new _ _ _)
                      have hG5 : G < w5.heap.size := by rw [← hw5, ← hG]; simp
                      have HO5 := Lib.hid (HOWN.out.later (below_trans HBX.out hb5))
                      clear hrowz hz hbig hb1 h3 hb5
                      go_wp2_with (first
                        | (refine step_loadRf rfl (.tmp 171) rfl HCZ.out rfl ?_)
                        | (refine step_pushRf eltRf rfl (.tmp 167) (.tmp 173) rfl _ out rfl G z.1 rfl HO5.out HC5.out hG5 (by have := HMO.out; omega) ?_; intro v6 w6 ho6 hg6 hn6; obtain ⟨a6, c6, hv6, -, -, -⟩ := ho6.rd; have HO6 := Lib.hid ho6; have HG6 := Lib.hid hg6; have HN6 := Lib.hid hn6; rw [List.length_append, List.length_singleton, HMO.out] at hv6; subst hv6; clear ho6 hg6 hn6))
                      refine ⟨⟨out ++ [z.1], a6, m + 1, c6, rfl, by rw [List.length_append, HMO.out]; rfl, hmk2, HRE2.out, HO6.out, fun g hg => ?_, below_grown HB5.out HG6.out (by have := HB5.out.size; omega) HLOW.out⟩, by show p - (m + 1) < p - m; omega⟩
                      rcases HN6.out g hg with h | h
                      · exact HLOW.out g h
                      · have := HB5.out.size
                        omega
              · have hm' : m = k := by omega
                subst hm'
                have HE2 : Hid (ordR ltR L = (out, 0)) := HEX.out out HRE.out (by rw [HMO.out, HLN.out])
                have HFIN : Hid (K (.returned (.tuple #[.slice oa m oc, .int .i64 0])) wr) := by
                  have := HENDV.out wr oa oc out HE2.out (HRO.out wr (Below.refl _ _)) HBR.out
                  rw [HMO.out] at this
                  exact this
                go_wp2
                exact HFIN.out
end Go.Proofs.Ytcakdjnnfonijaa
