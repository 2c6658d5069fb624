/- end, Rollback, begin, SetRoot. -/
import Derived.Test.YtagipfkgnobjlaaPgFree
import Derived.Deep.MidRow
namespace Go.Proofs.Ytagipfkgnobjlaa
open Go.RowKit

attribute [local go_sem] Oper.semAt_some
/-- Cells laid over a row from o on. -/
def patch (cs : Array Value) : Nat → List Value → Array Value
  | _, [] => cs
  | o, v :: r => patch (cs.setIfInBounds o v) (o + 1) r
theorem grownBy_setCellAt (w : World) (b o : Nat) (v : Value) : w.grownBy (w.setCell ⟨b, o, none⟩ v) (some b) :=
  ⟨rfl, rfl, rfl, by simp [World.setCell], fun i _ hne => heap_setCell_other w ⟨b, o, none⟩ i v fun e => hne (by rw [e])⟩
theorem setCells_row {b : Nat} {t : TypeId} : ∀ (vs : List Value) (o : Nat) (w : World) (cs : Array Value), RowAt w b t cs → RowAt (w.setCells b o vs) b t (patch cs o vs) ∧ w.grownBy (w.setCells b o vs) (some b)
  | [], o, w, cs, h => ⟨h, ⟨rfl, rfl, rfl, Nat.le_refl _, fun _ _ _ => rfl⟩⟩
  | v :: r, o, w, cs, h => by
    obtain ⟨h1, h2⟩ := setCells_row r (o + 1) (w.setCell ⟨b, o, none⟩ v) (cs.setIfInBounds o v) (h.set o v)
    exact ⟨h1, (grownBy_setCellAt w b o v).trans h2⟩
theorem wp_storeMid {P : Program} {op : Oper} {a : Act} {w : World} {K : Act → World → Prop} {Q : Exit → Act → World → Prop} (ty : TypeId) (x y : Operand) (ho : op.op = .store ty x y) (hd : op.dst = none)
    (b o : Nat) (cells : List Value) (hx : a.eval x = .pointer (some ⟨b, o, none⟩)) (hy : a.eval y = .agg cells.toArray) (t : TypeId) (old : Array Value) (hg : RowAt w b t old) (hin : o + cells.length ≤ old.size)
    (hi : (P.info? ty).map (·.size) = some cells.length) (h1 : ∀ v ∈ cells, v.oneCell' = true) (new : Array Value) (hnew : patch old o cells = new)
    (h : ∀ w', RowAt w' b t new → w.grownBy w' (some b) → K a w') : op.wp P a w K Q := by
  obtain ⟨q1, q2⟩ := setCells_row cells o w old hg
  refine wp_store_mid ty x y ho b o cells.toArray hx hy (fun j hj => ⟨?_, hg.frozen _⟩) (by simpa using hi) (all_oneCell_toArray h1) ?_
  · rw [hg.cell]
    have : o + j < old.size := by have : j < cells.length := by simpa using hj
                                  omega
    rw [Array.getElem?_eq_getElem this]
    rfl
  · rw [hd]
    exact h _ (hnew ▸ q1) q2
theorem step_storeMid {P : Program} {ops : Array Oper} {rest : List Oper} {op : Oper} {a : Act} {w : World} {Q : Exit → Act → World → Prop} (hgd : op.guard = none) (ty : TypeId) (x y : Operand) (ho : op.op = .store ty x y) (hd : op.dst = none)
    (b o : Nat) (cells : List Value) (hx : a.eval x = .pointer (some ⟨b, o, none⟩)) (hy : a.eval y = .agg cells.toArray) (t : TypeId) (old : Array Value) (hg : RowAt w b t old) (hin : o + cells.length ≤ old.size)
    (hi : (P.info? ty).map (·.size) = some cells.length) (h1 : ∀ v ∈ cells, v.oneCell' = true) (new : Array Value) (hnew : patch old o cells = new)
    (h : ∀ w', RowAt w' b t new → w.grownBy w' (some b) → wpList P ops Q rest a w') : wpList P ops Q (op :: rest) a w :=
  wpList_plain hgd fun _ hK => wp_storeMid ty x y ho hd b o cells hx hy t old hg hin hi h1 new hnew fun w' q1 q2 => hK _ _ (h w' q1 q2)
/-- clear on a map. -/
theorem run_clearM {P : Program} {κ : Type} [DecidableEq κ] {kv : κ → Value} {mt kt et ty : TypeId} (hm : P.underlying mt = some (.map kt et)) {w : World} {r : Nat} {f : κ → Option Value} (h : MapR w r kv f) :
    ∃ w', (Builtin.clear_ #[mt] ty #[.map (some r)]).run P w = .ok (.tuple #[]) w' ∧ w.grownBy w' (some r) ∧ MapR w' r kv (fun _ => none) := by
  obtain ⟨es, c, h1, h2⟩ := h
  refine ⟨_, ?_, map_grow w r (.map #[] c), #[], c, map_at h1 _, MapF.nil c⟩
  simp [Builtin.clear_, run_underlying hm, MapKept.run_getObj_map h1, MapKept.run_setObj_map _ h1, Result.andThen]
theorem pgRow_eq (d lb n room : Nat) (now was : Mt) (m : Nat) (op dd op' : Bool) (h : now.roots.length = 8) (h2 : was.roots.length = 8) : (pgC d lb n room now was m op dd).toArray.setIfInBounds 27 (.bool op') = (pgC d lb n room now was m op' dd).toArray := by
  obtain ⟨c, f, g, r⟩ := now
  obtain ⟨c2, f2, g2, r2⟩ := was
  simp only at h h2
  match r, h with
  | [_, _, _, _, _, _, _, _], _ =>
    match r2, h2 with
    | [_, _, _, _, _, _, _, _], _ => (show _ = _; kernel_rfl)
theorem patch_now (d lb n room : Nat) (now was now' : Mt) (m : Nat) (op dd : Bool) (h : now.roots.length = 8) (h2 : now'.roots.length = 8) : patch (pgC d lb n room now was m op dd).toArray 4 (mtC now') = (pgC d lb n room now' was m op dd).toArray := by
  obtain ⟨c, f, g, r⟩ := now
  obtain ⟨c2, f2, g2, r2⟩ := now'
  simp only at h h2
  match r, h with
  | [_, _, _, _, _, _, _, _], _ =>
    match r2, h2 with
    | [_, _, _, _, _, _, _, _], _ => (show _ = _; kernel_rfl)
theorem patch_was (d lb n room : Nat) (now was was' : Mt) (m : Nat) (op dd : Bool) (h : now.roots.length = 8) (h1 : was.roots.length = 8) (h2 : was'.roots.length = 8) : patch (pgC d lb n room now was m op dd).toArray 15 (mtC was') = (pgC d lb n room now was' m op dd).toArray := by
  obtain ⟨c0, f0, g0, r0⟩ := now
  obtain ⟨c, f, g, r⟩ := was
  obtain ⟨c2, f2, g2, r2⟩ := was'
  simp only at h h1 h2
  match r0, h with
  | [_, _, _, _, _, _, _, _], _ =>
    match r, h1 with
    | [_, _, _, _, _, _, _, _], _ =>
      match r2, h2 with
      | [_, _, _, _, _, _, _, _], _ => (show _ = _; kernel_rfl)
section
variable {b0 : Nat} {w w' : World} {F T U : Nat → Prop} {pb d size n room lb m : Nat} {f : Int → Option Value} {s : PS}
/-- The row written anew. -/
theorem PgM.setRow (h : PgM b0 w F T U pb d size n room lb m f s) (hk : KeepA (fun x => x = pb) w w') {now was : Mt} {op dd : Bool} (hr : PgRow w' pb d lb n room now was m op dd) : PgM b0 w' F T U pb d size n room lb m f { s with now := now, was := was, op := op, dd := dd } :=
  ⟨hr, h.turn.keep hk h.mT.2.2 fun x hx e => by subst e; exact h.pbT.2 hx, h.log.keep hk fun x hx e => by subst e; exact h.pbT.1 hx, h.tu, h.pbT, h.mT, h.foot, fun x hx => ⟨(h.lim x hx).1, Nat.lt_of_lt_of_le (h.lim x hx).2 hk.size⟩, h.rm, h.ql⟩
/-- The changed pages written anew. -/
theorem PgM.setMap (h : PgM b0 w F T U pb d size n room lb m f s) (hk : KeepA (fun x => x = m) w w') {U' : Nat → Prop} {f' : Int → Option Value} {tn : Int → Option (List UInt8)} (ht : TurnAt w' U' m f' tn) (hU : ∀ x, U' x → U x ∨ (w.heap.size ≤ x ∧ x < w'.heap.size)) :
    PgM b0 w' (fun x => F x ∨ U' x) T U' pb d size n room lb m f' { s with tn := tn } := by
  have lT : ∀ x, T x → x < w.heap.size := fun x hx => (h.lim x (h.foot x (.inl hx))).2
  have lp : pb < w.heap.size := h.row.row.lt
  have lm : m < w.heap.size := h.turn.map.lt
  have l0 : b0 ≤ w.heap.size := by have := (h.lim pb (h.foot pb (.inr (.inr (.inl rfl))))); omega
  refine ⟨h.row.keep hk h.mT.2.2.symm, ht, h.log.keep hk fun x hx e => by subst e; exact h.mT.1 hx, fun x hx hx2 => ?_, ⟨h.pbT.1, fun hx => ?_⟩, ⟨h.mT.1, fun hx => ?_, h.mT.2.2⟩, fun x hx => ?_, fun x hx => ?_, h.rm, h.ql⟩
  · rcases hU x hx with e | ⟨e, -⟩
    · exact h.tu x e hx2
    · have := lT x hx2; omega
  · rcases hU pb hx with e | ⟨e, -⟩
    · exact h.pbT.2 e
    · omega
  · rcases hU m hx with e | ⟨e, -⟩
    · exact h.mT.2.1 e
    · omega
  · rcases hx with e | e | e | e
    · exact .inl (h.foot x (.inl e))
    · exact .inr e
    · exact .inl (h.foot x (.inr (.inr (.inl e))))
    · exact .inl (h.foot x (.inr (.inr (.inr e))))
  · rcases hx with e | e
    · exact ⟨(h.lim x e).1, Nat.lt_of_lt_of_le (h.lim x e).2 hk.size⟩
    · rcases hU x e with e | ⟨e, e2⟩
      · have := h.lim x (h.foot x (.inr (.inl e)))
        exact ⟨this.1, Nat.lt_of_lt_of_le this.2 hk.size⟩
      · exact ⟨by omega, e2⟩
end
/-- What a call that writes leaves: a pager again, its blocks of old or new, all else as it was. -/
def PgR (b0 : Nat) (w w' : World) (F : Nat → Prop) (pb d size n room : Nat) (s : PS) : Prop := ∃ F', PgA b0 w' F' pb d size n room s ∧ (∀ x, F' x → F x ∨ w.heap.size ≤ x) ∧ KeepA F w w'
theorem TurnAt.nil {w : World} {m : Nat} (h : MapR w m intV (fun _ => none)) : TurnAt w (fun _ => False) m (fun _ => none) (fun _ => none) := ⟨h, fun _ _ => rfl, fun k v hv => by cases hv⟩
/-- The turn's end. -/
def PS.ended (s : PS) : PS := { s with tn := fun _ => none, op := false }
set_option maxRecDepth 100000 in
set_option maxHeartbeats 2000000 in
theorem pgend_any (b0 : Nat) (w : World) (F : Nat → Prop) (pb d size n room : Nat) (s : PS) (h : PgA b0 w F pb d size n room s) :
    Calls Try.prog 47 #[.pointer (some ⟨pb, 0, none⟩)] w fun e w' => e = .returned (.tuple #[]) ∧ PgR b0 w w' F pb d size n room s.ended := by
  obtain ⟨T, U, lb, m, f, h⟩ := h
  obtain ⟨c0, c1, c2, c3, c4, c5, c6, c26, c27, c28⟩ := h.row.cells
  obtain ⟨K, hK⟩ : ∃ K : Ending → World → Prop, (fun (e : Ending) (w' : World) => e = .returned (.tuple #[]) ∧ PgR b0 w w' F pb d size n room s.ended) = K := ⟨_, rfl⟩
  have HK : Hid (∀ w2, w.grownBy w2 (some m) → MapR w2 m intV (fun _ => none) → K (.returned (.tuple #[])) (w2.setCell ⟨pb, 27, none⟩ (.bool false))) := Lib.hid fun w2 hg hm => by
    rw [← hK]
    have h2 := h.setMap (U' := fun _ => False) (tn := fun _ => none) (keep_grown hg) (TurnAt.nil hm) (fun _ e => e.elim)
    have hr := h2.row.row.set 27 (.bool false)
    rw [pgRow_eq _ _ _ _ _ _ _ _ _ _ h.row.r8 h.row.w8] at hr
    have hk2 := keep_grown (grownBy_setCellAt w2 pb 27 (.bool false))
    have h3 := h2.setRow (now := s.now) (was := s.was) (op := false) (dd := s.dd) hk2 ⟨hr, h.row.r8, h.row.w8⟩
    refine ⟨rfl, _, ⟨_, _, _, _, _, h3⟩, fun x hx => .inl (hx.elim id False.elim), ?_⟩
    exact ((keep_grown hg).mono fun x hx => hx ▸ h.foot m (.inr (.inr (.inr rfl)))).trans (hk2.mono fun x hx => hx ▸ h.foot pb (.inr (.inr (.inl rfl))))
  have HM := Lib.hid h.turn.map
  have HR : Hid (PgRow w pb d lb n room s.now s.was m s.op s.dd) := h.row
  have hpm : pb ≠ m := h.mT.2.2.symm
  obtain ⟨w2, hrun, hg, hm⟩ := run_clearM (P := Try.prog) (ty := 0) Try.underlying75 h.turn.map
  have HE := Lib.hid (HK.out w2 hg hm)
  have e27 : w2.cell? ⟨pb, 27, none⟩ = some (.bool s.op) := hg.cell c27 (fun e => hpm (Option.some.inj e))
  have f27 : w2.frozen? ⟨pb, 27, none⟩ = false := (h.row.row.grown hg (fun g e => by cases e; exact hpm)).frozen 27
  rw [hK]
  clear hK HK HM HR hg hm h c0 c1 c2 c3 c4 c5 c6 c28
  go_enter Try.func47, Try.ntmps47
  go_wp2
  exact bodyPost_end (results_none rfl _ _ _) rfl HE.out
theorem mtC_one (m : Mt) : ∀ v ∈ mtC m, v.oneCell' = true := fun v hv => by
  unfold mtC at hv
  simp only [List.mem_append, List.mem_cons, List.not_mem_nil, or_false, List.mem_map] at hv
  rcases hv with (rfl | rfl | rfl) | ⟨x, -, rfl⟩ <;> rfl
theorem PgRow.was_range {w : World} {pb d lb n room : Nat} {now was : Mt} {m : Nat} {op dd : Bool} (h : PgRow w pb d lb n room now was m op dd) : w.rangeAt pb 15 (mtC was) := fun j v hv => by
  refine (h.at (15 + j) ?_).1
  rw [pgC_was _ _ _ _ _ _ _ _ _ h.r8 _ (List.getElem?_eq_some_iff.1 hv).1, hv]
theorem PgRow.now_range {w : World} {pb d lb n room : Nat} {now was : Mt} {m : Nat} {op dd : Bool} (h : PgRow w pb d lb n room now was m op dd) : w.rangeAt pb 4 (mtC now) := fun j v hv => by
  refine (h.at (4 + j) ?_).1
  rw [pgC_now _ _ _ _ _ _ _ _ _ _ (List.getElem?_eq_some_iff.1 hv).1, hv]
theorem pgC_size (d lb n room : Nat) (now was : Mt) (m : Nat) (op dd : Bool) (h : now.roots.length = 8) (h2 : was.roots.length = 8) : (pgC d lb n room now was m op dd).toArray.size = 29 := by
  simp [pgC, mtC_len, h, h2]
theorem metaSize : (Try.prog.info? 72).map (·.size) = some 11 := by kernel_rfl
theorem PgR.step {b0 : Nat} {w w1 w2 : World} {F : Nat → Prop} {pb d size n room : Nat} {s' : PS} {F1 : Nat → Prop} (hF : ∀ x, F1 x → F x ∨ w.heap.size ≤ x) (hk : KeepA F w w1) (h : PgR b0 w1 w2 F1 pb d size n room s') : PgR b0 w w2 F pb d size n room s' := by
  obtain ⟨F', h1, h2, h3⟩ := h
  refine ⟨F', h1, fun x hx => ?_, ?_⟩
  · rcases h2 x hx with e | e
    · exact hF x e
    · exact .inr (Nat.le_trans hk.size e)
  · exact hk.trans2 h3 fun x hx hy => (hF x hy).elim id fun e => by omega
set_option maxRecDepth 100000 in
set_option maxHeartbeats 2000000 in
theorem pgrollback_any (b0 : Nat) (w : World) (F : Nat → Prop) (pb d size n room : Nat) (s : PS) (h : PgA b0 w F pb d size n room s) :
    Calls Try.prog 17 #[.pointer (some ⟨pb, 0, none⟩)] w fun e w' => e = .returned (.int .i64 0) ∧ PgR b0 w w' F pb d size n room (if s.op = true then PS.ended { s with now := s.was } else s) := by
  have H0 := Lib.hid h
  obtain ⟨T, U, lb, m, f, h⟩ := h
  obtain ⟨c0, c1, c2, c3, c4, c5, c6, c26, c27, c28⟩ := h.row.cells
  have HN := Lib.hid (pgnone_any w pb d c0)
  cases hop : s.op with
  | false =>
    rw [hop] at c27
    have HE : Hid (PgR b0 w w F pb d size n room s) := ⟨F, H0.out, fun x hx => .inl hx, KeepA.refl _ _⟩
    clear h H0 c0 c1 c2 c3 c4 c5 c6 c26 c28
    go_enter Try.func17, Try.ntmps17
    go_wp2_with (go_at_call 35; refine HN.out.mono ?_; rintro _ _ ⟨rfl, rfl⟩)
    go_ret
    exact ⟨rfl, HE.out⟩
  | true =>
    rw [hop] at c27
    have HR : Hid (PgRow w pb d lb n room s.now s.was m s.op s.dd) := h.row
    have HEND : Hid (∀ w2, RowAt w2 pb 77 (pgC d lb n room s.was s.was m s.op s.dd).toArray → w.grownBy w2 (some pb) → Calls Try.prog 47 #[.pointer (some ⟨pb, 0, none⟩)] w2 fun e w' => e = .returned (.tuple #[]) ∧ PgR b0 w w' F pb d size n room (PS.ended { s with now := s.was })) := Lib.hid fun w2 hr hg => by
      have hk2 := keep_grown hg
      have h2 := h.setRow (now := s.was) (was := s.was) (op := s.op) (dd := s.dd) hk2 ⟨hr, h.row.w8, h.row.w8⟩
      refine (pgend_any b0 w2 F pb d size n room { s with now := s.was } ⟨_, _, _, _, _, h2⟩).mono ?_
      rintro e w3 ⟨he, h3⟩
      exact ⟨he, PgR.step (fun x hx => .inl hx) (hk2.mono fun x hx => hx ▸ h.foot pb (.inr (.inr (.inl rfl)))) h3⟩
    clear h H0 c0 c1 c2 c3 c4 c5 c6 c26 c28
    go_enter Try.func17, Try.ntmps17
    go_wp2_with (first
      | (go_at_call 35; refine HN.out.mono ?_; rintro _ _ ⟨rfl, rfl⟩)
      | (refine wpList_load_mid rfl 72 (.tmp 12) rfl pb 15 rfl (mtC s.was) _ HR.out.was_range Try.underlying72 rfl (by rw [mtC_len, HR.out.w8]; exact metaSize) ?_)
      | (refine step_storeMid rfl 72 (.tmp 15) (.tmp 13) rfl rfl pb 4 (mtC s.was) rfl rfl 77 _ HR.out.row (by rw [mtC_len, HR.out.w8, pgC_size _ _ _ _ _ _ _ _ _ HR.out.r8 HR.out.w8]; decide) (by rw [mtC_len, HR.out.w8]; exact metaSize) (mtC_one _) _ (patch_now _ _ _ _ _ _ _ _ _ _ HR.out.r8 HR.out.w8) ?_; intro w2 hr2 hg2; have HC := Lib.hid (HEND.out w2 hr2 hg2); clear hr2 hg2)
      | (go_at_call 47; refine HC.out.mono ?_; rintro _ w3 ⟨rfl, he3⟩; have HE3 := Lib.hid he3; clear he3))
    go_ret
    exact ⟨rfl, HE3.out⟩
/-- A turn's begin. -/
def PS.begun (s : PS) : PS := if s.op = true then s else { s with was := s.now, op := true }
set_option maxRecDepth 100000 in
set_option maxHeartbeats 2000000 in
theorem pgbegin_any (b0 : Nat) (w : World) (F : Nat → Prop) (pb d size n room : Nat) (s : PS) (h : PgA b0 w F pb d size n room s) (hdd : s.dd = false) :
    Calls Try.prog 38 #[.pointer (some ⟨pb, 0, none⟩)] w fun e w' => e = .returned (.int .i64 0) ∧ PgR b0 w w' F pb d size n room s.begun := by
  have H0 := Lib.hid h
  obtain ⟨T, U, lb, m, f, h⟩ := h
  obtain ⟨c0, c1, c2, c3, c4, c5, c6, c26, c27, c28⟩ := h.row.cells
  rw [hdd] at c28
  have HN := Lib.hid (pgnone_any w pb d c0)
  have f27 := h.row.row.frozen 27
  cases hop : s.op with
  | true =>
    rw [hop] at c27
    have HE : Hid (PgR b0 w w F pb d size n room s.begun) := by
      have : s.begun = s := by unfold PS.begun; rw [if_pos hop]
      show PgR _ _ _ _ _ _ _ _ _ _
      rw [this]
      exact ⟨F, H0.out, fun x hx => .inl hx, KeepA.refl _ _⟩
    clear h H0 c0 c1 c2 c3 c4 c5 c6 c26
    go_enter Try.func38, Try.ntmps38
    go_wp2_with (go_at_call 35; refine HN.out.mono ?_; rintro _ _ ⟨rfl, rfl⟩)
    go_ret
    exact ⟨rfl, HE.out⟩
  | false =>
    rw [hop] at c27
    have HR : Hid (PgRow w pb d lb n room s.now s.was m s.op s.dd) := h.row
    have HR27 : Hid (RowAt (w.setCell ⟨pb, 27, none⟩ (.bool true)) pb 77 (pgC d lb n room s.now s.was m true s.dd).toArray) := by
      have := h.row.row.set 27 (.bool true)
      rw [pgRow_eq _ _ _ _ _ _ _ _ _ _ h.row.r8 h.row.w8] at this
      exact this
    have HEND : Hid (∀ w2, RowAt w2 pb 77 (pgC d lb n room s.now s.now m true s.dd).toArray → (w.setCell ⟨pb, 27, none⟩ (.bool true)).grownBy w2 (some pb) → PgR b0 w w2 F pb d size n room s.begun) := Lib.hid fun w2 hr hg => by
      have hk1 := keep_grown (grownBy_setCellAt w pb 27 (.bool true))
      have hk2 := hk1.trans (keep_grown hg)
      have h2 := h.setRow (now := s.now) (was := s.now) (op := true) (dd := s.dd) hk2 ⟨hr, h.row.r8, h.row.r8⟩
      have : s.begun = { s with was := s.now, op := true } := by unfold PS.begun; rw [if_neg (by rw [hop]; simp)]
      rw [this]
      exact ⟨F, ⟨_, _, _, _, _, h2⟩, fun x hx => .inl hx, hk2.mono fun x hx => hx ▸ h.foot pb (.inr (.inr (.inl rfl)))⟩
    clear h H0 c0 c1 c2 c3 c4 c5 c6 c26
    go_enter Try.func38, Try.ntmps38
    go_wp2_with (first
      | (go_at_call 35; refine HN.out.mono ?_; rintro _ _ ⟨rfl, rfl⟩)
      | (refine wpList_load_mid rfl 72 (.tmp 20) rfl pb 4 rfl (mtC s.now) _ HR.out.now_range Try.underlying72 rfl (by rw [mtC_len, HR.out.r8]; exact metaSize) ?_)
      | (refine step_storeMid rfl 72 (.tmp 25) (.tmp 21) rfl rfl pb 15 (mtC s.now) rfl rfl 77 _ HR27.out (by rw [mtC_len, HR.out.r8, pgC_size _ _ _ _ _ _ _ _ _ HR.out.r8 HR.out.w8]; decide) (by rw [mtC_len, HR.out.r8]; exact metaSize) (mtC_one _) _ (patch_was _ _ _ _ _ _ _ _ _ _ HR.out.r8 HR.out.w8 HR.out.r8) ?_; intro w2 hr2 hg2; have HC := Lib.hid (HEND.out w2 hr2 hg2); clear hr2 hg2))
    go_ret
    exact ⟨rfl, HC.out⟩
end Go.Proofs.Ytagipfkgnobjlaa
