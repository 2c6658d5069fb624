/- Put that fails; SetRoot. -/
import Derived.Test.YtagipfkgnobjlaaPgMut
namespace Go.Proofs.Ytagipfkgnobjlaa
open Go.RowKit

attribute [local go_sem] Oper.semAt_some
/-- A root set. -/
def PS.rooted (s : PS) (i v : Nat) : PS := { s with now := { s.now with roots := s.now.roots.set i v } }
theorem pgRow_root (d lb n room : Nat) (now was : Mt) (m : Nat) (op dd : Bool) (h : now.roots.length = 8) (i : Nat) (hi : i < 8) (v : Nat) : (pgC d lb n room now was m op dd).toArray.setIfInBounds (7 + i) (.int .i64 (v : Int)) = (pgC d lb n room { now with roots := now.roots.set i v } was m op dd).toArray := by
  obtain ⟨c, f, g, r⟩ := now
  simp only at h
  match r, h with
  | [_, _, _, _, _, _, _, _], _ =>
    match i, hi with
    | 0, _ => (show _ = _; kernel_rfl)
    | 1, _ => (show _ = _; kernel_rfl)
    | 2, _ => (show _ = _; kernel_rfl)
    | 3, _ => (show _ = _; kernel_rfl)
    | 4, _ => (show _ = _; kernel_rfl)
    | 5, _ => (show _ = _; kernel_rfl)
    | 6, _ => (show _ = _; kernel_rfl)
    | 7, _ => (show _ = _; kernel_rfl)
theorem begun_now (s : PS) : s.begun.now = s.now := by unfold PS.begun; split <;> rfl
theorem begun_dd (s : PS) : s.begun.dd = s.dd := by unfold PS.begun; split <;> rfl
theorem begun_tn (s : PS) : s.begun.tn = s.tn := by unfold PS.begun; split <;> rfl
theorem begun_op (s : PS) : s.begun.op = true := by unfold PS.begun; split <;> simp_all
set_option maxRecDepth 100000 in
set_option maxHeartbeats 4000000 in
theorem pgsetroot_yes (b0 : Nat) (w : World) (F : Nat → Prop) (pb d size n room : Nat) (s : PS) (h : PgA b0 w F pb d size n room s) (hdd : s.dd = false) (i v : Nat) (hi : i < 8) (hv : v ≤ 2147483647) :
    Calls Try.prog 16 #[.pointer (some ⟨pb, 0, none⟩), .int .i64 (i : Int), .int .i64 (v : Int)] w fun e w' => e = .returned (.int .i64 0) ∧ PgR b0 w w' F pb d size n room (s.begun.rooted i v) := by
  have HBG := Lib.hid (pgbegin_any b0 w F pb d size n room s h hdd)
  obtain ⟨c0, -⟩ : w.cell? ⟨pb, 0, none⟩ = some (.pointer (some ⟨d, 0, none⟩)) ∧ True := by
    obtain ⟨T, U, lb, m, f, h⟩ := h
    obtain ⟨c0, c1, c2, c3, c4, c5, c6, c26, c27, c28⟩ := h.row.cells
    exact ⟨c0, trivial⟩
  have HN := Lib.hid (pgnone_any w pb d c0)
  obtain ⟨K, hK⟩ : ∃ K : Ending → World → Prop, (fun (e : Ending) (w' : World) => e = .returned (.int .i64 0) ∧ PgR b0 w w' F pb d size n room (s.begun.rooted i v)) = K := ⟨_, rfl⟩
  have HK : Hid (∀ w', PgR b0 w w' F pb d size n room (s.begun.rooted i v) → K (.returned (.int .i64 0)) w') := Lib.hid fun w' h3 => by rw [← hK]; exact ⟨rfl, h3⟩
  rw [hK]
  have hiI : (i : Int) < 8 := by omega
  have hi8 : ¬ (8 : Int) ≤ (i : Int) := by omega
  have hi0 : ¬ (i : Int) < 0 := by omega
  have hi1 : (0 : Int) ≤ (i : Int) := by omega
  have hv0 : ¬ (v : Int) < 0 := by omega
  have hv1 : ¬ (2147483647 : Int) < (v : Int) := by omega
  clear hK h hdd c0
  go_enter Try.func16, Try.ntmps16
  go_wp2_with fail
  refine HN.out.mono ?_
  rintro _ _ ⟨rfl, rfl⟩
  go_wp2_with fail
  refine HBG.out.mono ?_
  rintro _ w3 ⟨rfl, F3, ⟨T, U, lb, m, f, h3⟩, hF3, hk3⟩
  have HFIN : Hid (K (.returned (.int .i64 0)) (w3.setCell ⟨pb, 7 + i, none⟩ (.int .i64 (v : Int)))) := Lib.hid <| by
    have hr := h3.row.row.set (7 + i) (.int .i64 (v : Int))
    rw [pgRow_root _ _ _ _ _ _ _ _ _ h3.row.r8 i hi v] at hr
    have hk2 := keep_grown (grownBy_setCellAt w3 pb (7 + i) (.int .i64 (v : Int)))
    have h4 := h3.setRow (now := { s.begun.now with roots := s.begun.now.roots.set i v }) (was := s.begun.was) (op := s.begun.op) (dd := s.begun.dd) hk2 ⟨hr, by simp [h3.row.r8], h3.row.w8⟩
    exact HK.out _ (PgR.step (F1 := F3) hF3 hk3 ⟨F3, ⟨_, _, _, _, _, h4⟩, fun x hx => .inl hx, hk2.mono fun x hx => hx ▸ h3.foot pb (.inr (.inr (.inl rfl)))⟩)
  have hil : i < s.begun.now.roots.length := by rw [h3.row.r8]; exact hi
  obtain ⟨z, hz⟩ : ∃ y, s.begun.now.roots[i]'hil = y := ⟨_, rfl⟩
  have hcell : w3.cell? ⟨pb, 7 + i, none⟩ = some (.int .i64 (z : Int)) := by
    refine (h3.row.at (7 + i) ?_).1
    rw [show 7 + i = 4 + (3 + i) by omega, pgC_now _ _ _ _ _ _ _ _ _ _ (by rw [mtC_len]; omega)]
    have := mtC_root s.begun.now i hil
    rw [List.getElem?_toArray, hz] at this
    exact this
  have hfz : w3.frozen? ⟨pb, 7 + i, none⟩ = false := h3.row.row.frozen _
  clear hF3 hk3 h3 hz hil
  go_wp2
  exact HFIN.out
end Go.Proofs.Ytagipfkgnobjlaa
