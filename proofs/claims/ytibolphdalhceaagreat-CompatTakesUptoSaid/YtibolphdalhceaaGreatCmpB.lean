/- lexiconlaw19's descriptor B, worked out: its end is laid down (printed by gen_cmp_ends.py). -/
import Derived.Test.YtibolphdalhceaaGreatEvHand
import Derived.Test.YtibolphdalhceaaGreatLexIn
namespace Go.Proofs.YtibolphdalhceaaGreat
open Go.RowKit

noncomputable def endBB_2 : Blk := (.cells ⟨(.node (.node (.node (.node (.node .nil (.some (.v (.bool .false))) .nil) (.some (.v (.bool .false))) (.node .nil (.some (.v (.bool .false))) .nil)) (.some (.v (.string ⟨⟨[]⟩⟩))) (.node (.node .nil (.some (.v (.string ⟨⟨[99]⟩⟩))) .nil) (.some (.v (.int .i64 (.ofNat 15)))) .nil)) (.some (.v (.string ⟨⟨[97]⟩⟩))) (.node (.node (.node .nil (.some (.v (.string ⟨⟨[]⟩⟩))) .nil) (.some (.v (.int .i64 (.ofNat 2)))) (.node .nil (.some (.v (.bool .true))) .nil)) (.some (.v (.bool .false))) (.node (.node .nil (.some (.v (.string ⟨⟨[65]⟩⟩))) .nil) (.some (.v (.int .i64 (.ofNat 0)))) .nil))) (.some (.v (.int .i64 (.ofNat 1)))) (.node (.node (.node (.node .nil (.some (.v (.bool .false))) .nil) (.some (.v (.string ⟨⟨[]⟩⟩))) (.node .nil (.some (.v (.bool .false))) .nil)) (.some (.v (.int .i64 (.ofNat 0)))) (.node (.node .nil (.some (.v (.int .i64 (.ofNat 17)))) .nil) (.some (.v (.string ⟨⟨[]⟩⟩))) .nil)) (.some (.v (.int .i64 (.ofNat 13)))) (.node (.node (.node .nil (.some (.v (.int .i64 (.ofNat 3)))) .nil) (.some (.v (.string ⟨⟨[98]⟩⟩))) (.node .nil (.some (.v (.string ⟨⟨[]⟩⟩))) .nil)) (.some (.v (.bool .false))) (.node (.node .nil (.some (.v (.int .i64 (.ofNat 0)))) .nil) (.some (.v (.bool .false))) .nil)))), 0⟩ 27 81 (.some 9))
noncomputable def endBB_3 : Blk := (.cells ⟨(.node (.node (.node .nil (.some (.v (.slice .none 0 0))) .nil) (.some (.v (.bool .true))) .nil) (.some (.v (.string ⟨⟨[65]⟩⟩))) (.node (.node .nil (.some (.v (.slice .none 0 0))) .nil) (.some (.slc 2 0 3 3 .false)) .nil)), 0⟩ 5 63 (.some 5))
noncomputable def endVB : AV := (.tup [(.agg [(.v (.string ⟨⟨[]⟩⟩)), (.v (.slice .none 0 0)), (.slc 3 0 1 1 .false), (.v (.slice .none 0 0))]), (.v (.bool .true))])
noncomputable def endHB : Hp := ⟨(.node (.node (.node .nil (.some endBB_3) .nil) .none .nil) .none (.node .nil (.some endBB_2) .nil)), 4⟩
def endLB : List (Nat × Nat) := [(363, 2), (367, 3)]

def textB : List Value := [.agg #[.string ⟨⟨[115, 121, 110, 116, 97, 120, 61, 39, 112, 114, 111, 116, 111, 51, 39, 59, 109, 101, 115, 115, 97, 103, 101, 32, 65, 123, 98, 111, 111, 108, 32, 97, 61, 49, 59, 98, 121, 116, 101, 115, 32, 98, 61, 50, 59, 65, 32, 99, 61, 51, 59, 125]⟩⟩, .slice none 0 0]]
noncomputable def argsB : List AV := [.agg [.v (.string ⟨⟨[115, 121, 110, 116, 97, 120, 61, 39, 112, 114, 111, 116, 111, 51, 39, 59, 109, 101, 115, 115, 97, 103, 101, 32, 65, 123, 98, 111, 111, 108, 32, 97, 61, 49, 59, 98, 121, 116, 101, 115, 32, 98, 61, 50, 59, 65, 32, 99, 61, 51, 59, 125]⟩⟩), .v (.slice none 0 0)]]
set_option maxRecDepth 100000 in
theorem madeB_run : evEnter4 Tryz.prog khNone knLex [] (ecH Tryz.prog khNone knLex [] 100) 8 (textB.map .v) ⟨.nil, 0⟩ (endSim endLB endVB endHB) = .yes := by kernel_rfl
theorem madeB_calls (w : World) : Calls Tryz.prog 8 textB.toArray w fun e w' => ∃ x, e = .returned x ∧ ∃ ρ2, endVB.real ρ2 = some x ∧ Emb ρ2 ⟨w.heap.size, fun _ => False⟩ w endHB w' ∧ ∀ id l, ρ2 id = some l → 2 ≤ id :=
  quick_hand (khNone_ok _) knLex_ok (rec_none _) textB madeB_run (by kernel_rfl) w
end Go.Proofs.YtibolphdalhceaaGreat
