/- Versions and links: how they lie; keys of maps. -/
import Derived.Test.YtcakdjnnfonijaaRoRows
import Derived.Test.YtcakdjnnfonijaaRoMap
import Derived.Test.YtcakdjnnfonijaaRoErr
import Derived.Laws.StructEq
import Derived.Test.YtcakdjnnfonijaaProg
namespace Go.Proofs.Ytcakdjnnfonijaa
open Go.RowKit

def rfC (v : Rf) : List Value := [.string v.1, .int .i64 v.2]
def rfV (v : Rf) : Value := .agg #[.string v.1, .int .i64 v.2]
theorem rfC_len (v : Rf) : (rfC v).length = 2 := rfl
def RdRf (w : World) (a : Option Addr) (l : List Rf) : Prop := RowsAt w a 2 l (CellsAt w rfC)
theorem RdRf.later {w w' : World} (hb : Below w.heap.size w w') {a : Option Addr} {l : List Rf} (h : RdRf w a l) : RdRf w' a l := RowsAt.imp h hb.size fun _ _ _ hlt h => h.later hb hlt
/-- A row of links. -/
structure Lk where
  fr : Rf
  ta : Option Addr
  ts : List Rf
  tc : Nat
def lkC (l : Lk) : List Value := [.string l.fr.1, .int .i64 l.fr.2, .slice l.ta l.ts.length l.tc]
structure LkOk (w : World) (l : Lk) : Prop where
  rd : RdRf w l.ta l.ts
  cap : l.ts.length ≤ l.tc
  len : l.ts.length ≤ 9223372036854775807
structure LkAt (w : World) (b o : Nat) (l : Lk) : Prop where
  cells : CellsAt w lkC b o l
  ok : LkOk w l
def RdLk (w : World) (a : Option Addr) (l : List Lk) : Prop := RowsAt w a 3 l (LkAt w)
theorem RdLk.later {w w' : World} (hb : Below w.heap.size w w') {a : Option Addr} {l : List Lk} (h : RdLk w a l) : RdLk w' a l :=
  RowsAt.imp h hb.size fun _ _ _ hlt h => ⟨h.cells.later hb hlt, h.ok.rd.later hb, h.ok.cap, h.ok.len⟩
def plainL (l : List Lk) : List (Rf × List Rf) := l.map fun x => (x.fr, x.ts)
theorem bytes_ext {a b : ByteArray} (h : a.toList = b.toList) : a = b := by
  have h2 := h
  rw [ByteArray.toList_eq, ByteArray.toList_eq] at h2
  obtain ⟨⟨x⟩⟩ := a
  obtain ⟨⟨y⟩⟩ := b
  exact congrArg (fun l => ByteArray.mk (Array.mk l)) h2
section
variable {P : Program} {t ts ti : TypeId} {fs : Array Field} (hu : P.underlying t = some (.struct fs)) (hs : P.underlying ts = some .string) (hi : P.underlying ti = some (.int .i64)) (f0 f1 : Field) (hf : fs.toList = [f0, f1])
  (n0 : f0.name ≠ "_") (n1 : f1.name ≠ "_") (t0 : f0.type = ts) (t1 : f1.type = ti) (o0 : f0.offset = 0) (o1 : f1.offset = 1)
include hu hs hi hf n0 n1 t0 t1 o0 o1
theorem run_eq_gen (hp : P.stoodInHeld t = false) (w : World) (a b : Rf) : (Op.equal t (rfV a) (rfV b)).run P w = .ok (decide (a = b)) w := by
  have hfo : P.fieldsOf t = fs := by unfold Program.fieldsOf; rw [hu]
  have e := run_equalIn_struct (P := P) w 9999 t #[.string a.1, .int .i64 a.2] #[.string b.1, .int .i64 b.2] (by rw [hfo, hu]) hp
  rw [hfo, hf] at e
  have p0 : ∀ s z, (part ts #[Value.string s, .int .i64 z] 0).run P w = .ok (.string s) w := fun s z => run_part_plain w (by simp [Program.plainKey, hs]) rfl
  have p1 : ∀ s z, (part ti #[Value.string s, .int .i64 z] 1).run P w = .ok (.int .i64 z) w := fun s z => run_part_plain w (by simp [Program.plainKey, hi]) rfl
  have q0 : (Op.equalIn 9999 ts (.string a.1) (.string b.1)).run P w = .ok (a.1.toList == b.1.toList) w := run_equalIn_string w 9998 _ _ _ hs
  have q1 : (Op.equalIn 9999 ti (.int .i64 a.2) (.int .i64 b.2)).run P w = .ok (a.2 == b.2) w := run_equalIn_int w 9998 _ _ _ _ _ hi
  show (Op.equalIn 10000 t (rfV a) (rfV b)).run P w = _
  unfold rfV
  rw [e]
  generalize (9999 : Nat) = d at q0 q1 ⊢
  have hab : (a = b) ↔ a.1.toList = b.1.toList ∧ a.2 = b.2 := ⟨fun e => by rw [e]; exact ⟨rfl, rfl⟩, fun e => Prod.ext (bytes_ext e.1) e.2⟩
  have hd : decide (a = b) = (decide (a.1.toList = b.1.toList) && decide (a.2 = b.2)) := by
    rw [← Bool.decide_and]
    exact decide_eq_decide.2 hab
  rw [hd]
  simp only [Op.eqFields, n0, n1, t0, t1, o0, o1, ne_eq, not_false_eq_true, if_true, Sem.run_bind, Sem.run_ite, p0, p1, q0, q1, Result.andThen_ok, Sem.run_pure]
  by_cases h1 : a.1.toList = b.1.toList <;> by_cases h2 : a.2 = b.2 <;> simp [h1, h2]
theorem run_chk_gen (w : World) (em : Bool) (a : Rf) : (Instr.checkKey em 10000 t (rfV a)).run P w = .ok () w := by
  have p0 : (part ts #[Value.string a.1, .int .i64 a.2] 0).run P w = .ok (.string a.1) w := run_part_plain w (by simp [Program.plainKey, hs]) rfl
  have p1 : (part ti #[Value.string a.1, .int .i64 a.2] 1).run P w = .ok (.int .i64 a.2) w := run_part_plain w (by simp [Program.plainKey, hi]) rfl
  have q0 : ∀ n, (Instr.checkKey em (n + 1) ts (.string a.1)).run P w = .ok () w := fun n => by simp [Instr.checkKey, run_underlying hs]
  have q1 : ∀ n, (Instr.checkKey em (n + 1) ti (.int .i64 a.2)).run P w = .ok () w := fun n => by simp [Instr.checkKey, run_underlying hi]
  have key : ∀ n, (Instr.checkKey em (n + 1 + 1) t (rfV a)).run P w = .ok () w := fun n => by
    unfold rfV
    rw [Instr.checkKey]
    simp only [Sem.run_bind, run_underlying hu, Result.andThen_ok]
    rw [← Array.forIn_toList, hf]
    simp only [List.forIn_cons, List.forIn_nil, n0, n1, t0, t1, o0, o1, ne_eq, not_false_eq_true, if_true, Sem.run_bind, p0, p1, q0, q1, Result.andThen_ok, Sem.run_pure]
  exact key 9998
end
set_option maxRecDepth 100000 in
theorem keyRf : KeyT Try.prog 25 rfV := by
  refine ⟨by kernel_rfl, fun a b h => ?_, fun w a b => ?_, fun w b a => ?_, fun w a => ?_⟩
  · unfold rfV at h
    simp only [Value.agg.injEq] at h
    have h2 : [Value.string a.1, .int .i64 a.2] = [Value.string b.1, .int .i64 b.2] := by simpa using congrArg Array.toList h
    simp only [List.cons.injEq, Value.string.injEq, Value.int.injEq, true_and, and_true] at h2
    exact Prod.ext h2.1 h2.2
  · exact run_eq_gen Try.underlying25 Try.underlying9 Try.underlying3 _ _ rfl (by decide) (by decide) rfl rfl rfl rfl (by kernel_rfl) w a b
  · exact run_chk_gen Try.underlying25 Try.underlying9 Try.underlying3 _ _ rfl (by decide) (by decide) rfl rfl rfl rfl w b a
  · have hs : Instr.sameBits 10000 (rfV a) (rfV a) = true := by
      show Instr.sameBits (9999 + 1) (rfV a) (rfV a) = true
      have h0 : ∀ n, Instr.sameBits (n + 1) (.string a.1) (.string a.1) = true := fun n => by simp [Instr.sameBits, beq_toListBytes]
      have h1 : ∀ n, Instr.sameBits (n + 1) (.int .i64 a.2) (.int .i64 a.2) = true := fun n => by simp [Instr.sameBits]
      unfold rfV
      have := h0 9998
      have := h1 9998
      simp only [Instr.sameBits]
      simp_all
    unfold Instr.keyThatStays
    rw [if_pos hs]
    rfl
end Go.Proofs.Ytcakdjnnfonijaa
