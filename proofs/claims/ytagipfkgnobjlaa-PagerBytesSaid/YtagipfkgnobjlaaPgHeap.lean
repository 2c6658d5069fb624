/- A pager: how it lies. none, begin, Root, State. -/
import Derived.Test.YtagipfkgnobjlaaPgKey
namespace Go.Proofs.Ytagipfkgnobjlaa
open Go.RowKit

attribute [local go_sem] Oper.semAt_some
def pgC (d lb n room : Nat) (now was : Mt) (m : Nat) (op dd : Bool) : List Value :=
  [.pointer (some ⟨d, 0, none⟩), .pointer (some ⟨lb, 0, none⟩), .int .i64 (n : Int), .int .i64 (room : Int)] ++ mtC now ++ mtC was ++ [.map (some m), .bool op, .bool dd]
structure PgRow (w : World) (pb d lb n room : Nat) (now was : Mt) (m : Nat) (op dd : Bool) : Prop where
  row : RowAt w pb 77 (pgC d lb n room now was m op dd).toArray
  r8 : now.roots.length = 8
  w8 : was.roots.length = 8
section
variable {w w' : World} {pb d lb n room : Nat} {now was : Mt} {m : Nat} {op dd : Bool}
theorem PgRow.keep {X : Nat → Prop} (h : PgRow w pb d lb n room now was m op dd) (hk : KeepA X w w') (hx : ¬ X pb) : PgRow w' pb d lb n room now was m op dd := ⟨row_keep hk h.row hx, h.r8, h.w8⟩
theorem PgRow.later (h : PgRow w pb d lb n room now was m op dd) (hb : Below w.heap.size w w') : PgRow w' pb d lb n room now was m op dd := h.keep (X := fun _ => False) (KeepA.of_below hb) fun h => h
theorem PgRow.at (h : PgRow w pb d lb n room now was m op dd) (k : Nat) {v : Value} (hv : (pgC d lb n room now was m op dd)[k]? = some v) : w.cell? ⟨pb, k, none⟩ = some v ∧ w.frozen? ⟨pb, k, none⟩ = false := by
  refine ⟨?_, h.row.frozen k⟩
  rw [h.row.cell k, List.getElem?_toArray]
  exact hv
theorem mtC_len (m : Mt) : (mtC m).length = 3 + m.roots.length := by simp [mtC]; try omega
theorem pgC_now (d lb n room : Nat) (now was : Mt) (m : Nat) (op dd : Bool) (k : Nat) (hk : k < (mtC now).length) : (pgC d lb n room now was m op dd)[4 + k]? = (mtC now)[k]? := by
  unfold pgC
  rw [List.append_assoc, List.append_assoc, List.getElem?_append_right (by simp), List.getElem?_append_left (by simpa using hk)]
  simp
theorem pgC_was (d lb n room : Nat) (now was : Mt) (m : Nat) (op dd : Bool) (h : now.roots.length = 8) (k : Nat) (hk : k < (mtC was).length) : (pgC d lb n room now was m op dd)[15 + k]? = (mtC was)[k]? := by
  have h11 : (mtC now).length = 11 := by rw [mtC_len, h]
  unfold pgC
  rw [List.append_assoc, List.getElem?_append_right (by simp [h11]; try omega), List.getElem?_append_left (by simp [h11]; try omega)]
  simp [h11]
theorem pgC_end (d lb n room : Nat) (now was : Mt) (m : Nat) (op dd : Bool) (h : now.roots.length = 8) (h2 : was.roots.length = 8) (k : Nat) : (pgC d lb n room now was m op dd)[26 + k]? = ([.map (some m), .bool op, .bool dd] : List Value)[k]? := by
  have h11 : (mtC now).length = 11 := by rw [mtC_len, h]
  have h12 : (mtC was).length = 11 := by rw [mtC_len, h2]
  unfold pgC
  rw [List.getElem?_append_right (by simp [h11, h12])]
  congr 1
  simp [h11, h12]
/-- The cells that are looked at one by one. -/
theorem PgRow.cells (h : PgRow w pb d lb n room now was m op dd) : w.cell? ⟨pb, 0, none⟩ = some (.pointer (some ⟨d, 0, none⟩)) ∧ w.cell? ⟨pb, 1, none⟩ = some (.pointer (some ⟨lb, 0, none⟩)) ∧ w.cell? ⟨pb, 2, none⟩ = some (.int .i64 (n : Int)) ∧ w.cell? ⟨pb, 3, none⟩ = some (.int .i64 (room : Int)) ∧
    w.cell? ⟨pb, 4, none⟩ = some (.int .i64 (now.count : Int)) ∧ w.cell? ⟨pb, 5, none⟩ = some (.int .i64 (now.free : Int)) ∧ w.cell? ⟨pb, 6, none⟩ = some (.int .i64 (now.many : Int)) ∧
    w.cell? ⟨pb, 26, none⟩ = some (.map (some m)) ∧ w.cell? ⟨pb, 27, none⟩ = some (.bool op) ∧ w.cell? ⟨pb, 28, none⟩ = some (.bool dd) := by
  have hl : ∀ k, k < 3 → k < (mtC now).length := fun k hk => by rw [mtC_len]; omega
  refine ⟨(h.at 0 rfl).1, (h.at 1 rfl).1, (h.at 2 rfl).1, (h.at 3 rfl).1, (h.at 4 ?_).1, (h.at 5 ?_).1, (h.at 6 ?_).1, (h.at 26 ?_).1, (h.at 27 ?_).1, (h.at 28 ?_).1⟩
  · rw [show 4 = 4 + 0 by omega, pgC_now _ _ _ _ _ _ _ _ _ 0 (hl 0 (by omega))]; rfl
  · rw [show 5 = 4 + 1 by omega, pgC_now _ _ _ _ _ _ _ _ _ 1 (hl 1 (by omega))]; rfl
  · rw [show 6 = 4 + 2 by omega, pgC_now _ _ _ _ _ _ _ _ _ 2 (hl 2 (by omega))]; rfl
  · rw [show 26 = 26 + 0 by omega, pgC_end _ _ _ _ _ _ _ _ _ h.r8 h.w8 0]; rfl
  · rw [show 27 = 26 + 1 by omega, pgC_end _ _ _ _ _ _ _ _ _ h.r8 h.w8 1]; rfl
  · rw [show 28 = 26 + 2 by omega, pgC_end _ _ _ _ _ _ _ _ _ h.r8 h.w8 2]; rfl
end
theorem run_eqPgNil (w : World) (b : Nat) : (binOp .eql 30 (.pointer (some ⟨b, 0, none⟩)) (.pointer none)).run Try.prog w = .ok (.bool false) w := by
  simp only [binOp]
  have h : (Op.equalIn 10000 30 (.pointer (some ⟨b, 0, none⟩)) (.pointer none)).run Try.prog w = .ok false w := by
    show (Op.equalIn (9999 + 1) _ _ _).run Try.prog w = _
    unfold Op.equalIn
    rw [Sem.run_bind, run_underlying Try.underlying30]
    rfl
  simp [Op.equal, Op.maxDepth, h]
theorem run_eqDkNil (w : World) (b : Nat) : (binOp .eql 24 (.pointer (some ⟨b, 0, none⟩)) (.pointer none)).run Try.prog w = .ok (.bool false) w := by
  simp only [binOp]
  have h : (Op.equalIn 10000 24 (.pointer (some ⟨b, 0, none⟩)) (.pointer none)).run Try.prog w = .ok false w := by
    show (Op.equalIn (9999 + 1) _ _ _).run Try.prog w = _
    unfold Op.equalIn
    rw [Sem.run_bind, run_underlying Try.underlying24]
    rfl
  simp [Op.equal, Op.maxDepth, h]
set_option maxRecDepth 100000 in
theorem pgnone_any (w : World) (pb d : Nat) (hc : w.cell? ⟨pb, 0, none⟩ = some (.pointer (some ⟨d, 0, none⟩))) : Calls Try.prog 35 #[.pointer (some ⟨pb, 0, none⟩)] w fun e w' => e = .returned (.bool false) ∧ w = w' := by
  have h1 := run_eqPgNil w pb
  have h2 := run_eqDkNil w d
  go_enter Try.func35, Try.ntmps35
  go_wp2
  go_ret
  exact ⟨rfl, rfl⟩
set_option maxRecDepth 100000 in
set_option maxHeartbeats 1000000 in
theorem pgstate_any (w : World) (pb d lb n room : Nat) (now was : Mt) (m : Nat) (op dd : Bool) (h : PgRow w pb d lb n room now was m op dd) (hn : now.count < 4294967296) (hm : now.many < 4294967296) (hr : room ≤ 100000) :
    Calls Try.prog 18 #[.pointer (some ⟨pb, 0, none⟩)] w fun e w' => e = .returned (.tuple #[.int .i64 ((now.count : Int) - 1 - (now.many : Int)), .int .i64 ((room : Int) - 1), .bool op, .bool dd]) ∧ Below w.heap.size w w' := by
  obtain ⟨c0, c1, c2, c3, c4, c5, c6, c26, c27, c28⟩ := h.cells
  have HN := Lib.hid (pgnone_any w pb d c0)
  obtain ⟨cnt, hcnt⟩ : ∃ y, now.count = y := ⟨_, rfl⟩
  obtain ⟨mn, hmn⟩ : ∃ y, now.many = y := ⟨_, rfl⟩
  rw [hcnt] at c4 hn
  rw [hmn] at c6 hm
  rw [hcnt, hmn]
  obtain ⟨K, hK⟩ : ∃ K : Ending → World → Prop, (fun (e : Ending) (w' : World) => e = .returned (.tuple #[.int .i64 ((cnt : Int) - 1 - (mn : Int)), .int .i64 ((room : Int) - 1), .bool op, .bool dd]) ∧ Below w.heap.size w w') = K := ⟨_, rfl⟩
  have HK : Hid (∀ w', Below w.heap.size w w' → K (.returned (.tuple #[.int .i64 ((cnt : Int) - 1 - (mn : Int)), .int .i64 ((room : Int) - 1), .bool op, .bool dd])) w') := Lib.hid fun w' h => by rw [← hK]; exact ⟨rfl, h⟩
  rw [hK]
  clear hK
  have y1 : IntKind.i64.wrap ((cnt : Int) - 1) = (cnt : Int) - 1 := IntWalk.i64_in _ (by omega)
  have y2 : IntKind.i64.wrap ((cnt : Int) - 1 - (mn : Int)) = (cnt : Int) - 1 - (mn : Int) := IntWalk.i64_in _ (by omega)
  have y3 : IntKind.i64.wrap ((room : Int) - 1) = (room : Int) - 1 := IntWalk.i64_in _ (by omega)
  clear h hcnt hmn c1 c2 c5 c26
  go_enter Try.func18, Try.ntmps18
  go_wp2_with (go_at_call 35; refine HN.out.mono ?_; rintro _ _ ⟨rfl, rfl⟩)
  go_big_quiet (fail)
  go_wp2
  refine bodyPost_ret (results_tmp4 rfl _ _ _) rfl ?_
  exact HK.out _ (drewN_below (Below.refl _ _) _)
end Go.Proofs.Ytagipfkgnobjlaa
