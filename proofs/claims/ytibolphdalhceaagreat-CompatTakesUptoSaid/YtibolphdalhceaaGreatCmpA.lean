/- lexiconlaw19's descriptor A, worked out: its end is laid down (printed by gen_cmp_ends.py). -/
import Derived.Test.YtibolphdalhceaaGreatEvHand
import Derived.Test.YtibolphdalhceaaGreatLexIn
namespace Go.Proofs.YtibolphdalhceaaGreat
open Go.RowKit

noncomputable def endBA_0 : Blk := (.cells ⟨(.node (.node (.node (.node (.node .nil (.some (.v (.bool .false))) .nil) (.some (.v (.bool .false))) .nil) (.some (.v (.string ⟨⟨[]⟩⟩))) (.node .nil (.some (.v (.int .i64 (.ofNat 14)))) .nil)) (.some (.v (.string ⟨⟨[97]⟩⟩))) (.node (.node (.node .nil (.some (.v (.string ⟨⟨[]⟩⟩))) .nil) (.some (.v (.int .i64 (.ofNat 2)))) .nil) (.some (.v (.bool .false))) (.node .nil (.some (.v (.int .i64 (.ofNat 0)))) .nil))) (.some (.v (.int .i64 (.ofNat 1)))) (.node (.node (.node (.node .nil (.some (.v (.bool .false))) .nil) (.some (.v (.string ⟨⟨[]⟩⟩))) .nil) (.some (.v (.int .i64 (.ofNat 0)))) (.node .nil (.some (.v (.string ⟨⟨[]⟩⟩))) .nil)) (.some (.v (.int .i64 (.ofNat 3)))) (.node (.node .nil (.some (.v (.string ⟨⟨[98]⟩⟩))) .nil) (.some (.v (.bool .false))) (.node .nil (.some (.v (.bool .false))) .nil)))), 0⟩ 18 81 (.some 9))
noncomputable def endBA_1 : Blk := (.cells ⟨(.node (.node (.node .nil (.some (.v (.slice .none 0 0))) .nil) (.some (.v (.bool .true))) .nil) (.some (.v (.string ⟨⟨[65]⟩⟩))) (.node (.node .nil (.some (.v (.slice .none 0 0))) .nil) (.some (.slc 0 0 2 2 .false)) .nil)), 0⟩ 5 63 (.some 5))
noncomputable def endVA : AV := (.tup [(.agg [(.v (.string ⟨⟨[]⟩⟩)), (.v (.slice .none 0 0)), (.slc 1 0 1 1 .false), (.v (.slice .none 0 0))]), (.v (.bool .true))])
noncomputable def endHA : Hp := ⟨(.node (.node .nil (.some endBA_1) .nil) (.some endBA_0) .nil), 2⟩
def endLA : List (Nat × Nat) := [(274, 0), (278, 1)]

def textA : List Value := [.agg #[.string ⟨⟨[115, 121, 110, 116, 97, 120, 61, 39, 112, 114, 111, 116, 111, 51, 39, 59, 109, 101, 115, 115, 97, 103, 101, 32, 65, 123, 105, 110, 116, 51, 50, 32, 97, 61, 49, 59, 115, 116, 114, 105, 110, 103, 32, 98, 61, 50, 59, 125]⟩⟩, .slice none 0 0]]
noncomputable def argsA : List AV := [.agg [.v (.string ⟨⟨[115, 121, 110, 116, 97, 120, 61, 39, 112, 114, 111, 116, 111, 51, 39, 59, 109, 101, 115, 115, 97, 103, 101, 32, 65, 123, 105, 110, 116, 51, 50, 32, 97, 61, 49, 59, 115, 116, 114, 105, 110, 103, 32, 98, 61, 50, 59, 125]⟩⟩), .v (.slice none 0 0)]]
set_option maxRecDepth 100000 in
theorem madeA_run : evEnter4 Tryz.prog khNone knLex [] (ecH Tryz.prog khNone knLex [] 100) 8 (textA.map .v) ⟨.nil, 0⟩ (endSim endLA endVA endHA) = .yes := by kernel_rfl
theorem madeA_calls (w : World) : Calls Tryz.prog 8 textA.toArray w fun e w' => ∃ x, e = .returned x ∧ ∃ ρ2, endVA.real ρ2 = some x ∧ Emb ρ2 ⟨w.heap.size, fun _ => False⟩ w endHA w' ∧ ∀ id l, ρ2 id = some l → 0 ≤ id :=
  quick_hand (khNone_ok _) knLex_ok (rec_none _) textA madeA_run (by kernel_rfl) w
end Go.Proofs.YtibolphdalhceaaGreat
