/- lexiconlaw18's descriptor, worked out: its end is laid down (printed by gen_cod_ends.py). -/
import Derived.Test.YtnpdnlnglahicaaGreatDoorEvTop
import Derived.Test.YtnpdnlnglahicaaGreatDoorLexIn
namespace Go.Proofs.YtnpdnlnglahicaaGreatDoor
open Go.RowKit

noncomputable def endBA_0 : Blk := (.cells ⟨(.node (.node (.node (.node (.node .nil (.some (.v (.bool .true))) .nil) (.some (.v (.bool .false))) (.node .nil (.some (.v (.bool .true))) .nil)) (.some (.v (.string ⟨⟨[]⟩⟩))) (.node (.node .nil (.some (.v (.string ⟨⟨[100]⟩⟩))) .nil) (.some (.v (.int .i64 (.ofNat 7)))) .nil)) (.some (.v (.string ⟨⟨[97]⟩⟩))) (.node (.node (.node .nil (.some (.v (.string ⟨⟨[]⟩⟩))) .nil) (.some (.v (.int .i64 (.ofNat 2)))) (.node .nil (.some (.v (.bool .false))) .nil)) (.some (.v (.bool .false))) (.node (.node .nil (.some (.v (.string ⟨⟨[]⟩⟩))) .nil) (.some (.v (.int .i64 (.ofNat 0)))) .nil))) (.some (.v (.int .i64 (.ofNat 1)))) (.node (.node (.node (.node .nil (.some (.v (.bool .false))) .nil) (.some (.v (.string ⟨⟨[]⟩⟩))) (.node .nil (.some (.v (.bool .false))) .nil)) (.some (.v (.int .i64 (.ofNat 0)))) (.node (.node .nil (.some (.v (.int .i64 (.ofNat 13)))) .nil) (.some (.v (.string ⟨⟨[]⟩⟩))) .nil)) (.some (.v (.int .i64 (.ofNat 3)))) (.node (.node (.node .nil (.some (.v (.int .i64 (.ofNat 4)))) .nil) (.some (.v (.string ⟨⟨[98]⟩⟩))) (.node .nil (.some (.v (.string ⟨⟨[]⟩⟩))) .nil)) (.some (.v (.bool .false))) (.node (.node .nil (.some (.v (.int .i64 (.ofNat 14)))) .nil) (.some (.v (.bool .true))) .nil)))), 0⟩ 27 124 (.some 9))
noncomputable def endBA_1 : Blk := (.cells ⟨(.node (.node (.node .nil (.some (.v (.slice .none 0 0))) .nil) (.some (.v (.bool .true))) .nil) (.some (.v (.string ⟨⟨[65]⟩⟩))) (.node (.node .nil (.some (.v (.slice .none 0 0))) .nil) (.some (.slc 0 0 3 3 .false)) .nil)), 0⟩ 5 112 (.some 5))
noncomputable def endVA : AV := (.tup [(.agg [(.v (.string ⟨⟨[]⟩⟩)), (.v (.slice .none 0 0)), (.slc 1 0 1 1 .false), (.v (.slice .none 0 0))]), (.v (.bool .true))])
noncomputable def endHA : Hp := ⟨(.node (.node .nil (.some endBA_1) .nil) (.some endBA_0) .nil), 2⟩
def endLA : List (Nat × Nat) := [(401, 0), (405, 1)]

def textA : List Value := [.agg #[.string ⟨⟨[115, 121, 110, 116, 97, 120, 61, 39, 112, 114, 111, 116, 111, 51, 39, 59, 109, 101, 115, 115, 97, 103, 101, 32, 65, 123, 105, 110, 116, 51, 50, 32, 97, 61, 49, 59, 114, 101, 112, 101, 97, 116, 101, 100, 32, 115, 105, 110, 116, 51, 50, 32, 98, 61, 50, 59, 109, 97, 112, 60, 115, 116, 114, 105, 110, 103, 44, 98, 111, 111, 108, 62, 32, 100, 61, 52, 59, 125]⟩⟩, .slice none 0 0, .string ⟨⟨[]⟩⟩]]
noncomputable def argsA : List AV := [.agg [.v (.string ⟨⟨[115, 121, 110, 116, 97, 120, 61, 39, 112, 114, 111, 116, 111, 51, 39, 59, 109, 101, 115, 115, 97, 103, 101, 32, 65, 123, 105, 110, 116, 51, 50, 32, 97, 61, 49, 59, 114, 101, 112, 101, 97, 116, 101, 100, 32, 115, 105, 110, 116, 51, 50, 32, 98, 61, 50, 59, 109, 97, 112, 60, 115, 116, 114, 105, 110, 103, 44, 98, 111, 111, 108, 62, 32, 100, 61, 52, 59, 125]⟩⟩), .v (.slice none 0 0), .v (.string ⟨⟨[]⟩⟩)]]
set_option maxRecDepth 100000 in
theorem madeA_run : evEnter4 Tryz.prog khNone knLex [] (ecH Tryz.prog khNone knLex [] 100) 9 (textA.map .v) ⟨.nil, 0⟩ (endSim endLA endVA endHA) = .yes := by kernel_rfl
theorem madeA_calls (w : World) : Calls Tryz.prog 9 textA.toArray w fun e w' => ∃ x, e = .returned x ∧ ∃ ρ2, endVA.real ρ2 = some x ∧ Emb ρ2 ⟨w.heap.size, fun _ => False⟩ w endHA w' ∧ ∀ id l, ρ2 id = some l → 0 ≤ id :=
  quick_hand (khNone_ok _) knLex_ok (rec_none _) textA madeA_run (by kernel_rfl) w
end Go.Proofs.YtnpdnlnglahicaaGreatDoor
