/- Steps: '[]byte(s)' of a text: a new row that holds its bytes. Nothing of the program is used here. -/
import Derived.Test.YtlchnfjbcefkoaaGreatRow
import Derived.Lib.ConvBytes
namespace Go.Proofs.YtlchnfjbcefkoaaGreat
open Go.RowKit

theorem bytesWorld_below (w : World) (e : TypeId) (s : ByteArray) : Below w.heap.size w (Go.Lib.bytesWorld w e s) :=
  ⟨rfl, rfl, rfl, by rw [Go.Lib.bytesWorld_size]; omega, fun j hj => Go.Lib.bytesWorld_at_old w e s j hj⟩
theorem bytesWorld_rd (w : World) (e : TypeId) (l : List UInt8) : RdB (Go.Lib.bytesWorld w e (str l)) (some ⟨w.heap.size, 0, none⟩) l := by
  refine .inr ⟨w.heap.size, 0, rfl, by rw [Go.Lib.bytesWorld_size]; omega, fun k hk => ?_⟩
  rw [List.length_map] at hk
  rw [Nat.zero_add, Go.Lib.bytesWorld_cell w e (str l) k (by simpa [str, ByteArray.size] using hk)]
  simp [str, bv, List.getD, hk]
theorem step_toBytes {P : Program} {ops : Array Oper} {rest : List Oper} {o : Oper} {act : Act} {w : World} {Q : Exit → Act → World → Prop} (hgd : o.guard = none) (src dst e : TypeId) (x : Operand) (ho : o.op = .convert src dst x)
    (l : List UInt8) (s : ByteArray) (n : Nat) (hl : str l = s) (hlen : n = l.length) (hx : act.eval x = .string s)
    (hs : P.underlying src = some .string) (hd : P.underlying dst = some (.slice e)) (he : P.underlying e = some (.int .u8))
    (h : ∀ (c : Nat) (w' : World), n ≤ c → RdB w' (some ⟨w.heap.size, 0, none⟩) l → Below w.heap.size w w' → w.heap.size < w'.heap.size → wpList P ops Q rest (act.put o.dst (.slice (some ⟨w.heap.size, 0, none⟩) n c)) w') : wpList P ops Q (o :: rest) act w :=
  wpList_plain hgd fun K hK => by
    subst hl hlen
    have hn : (str l).size = l.length := by simp [str, ByteArray.size]
    unfold Oper.wp execOp
    simp only [ho, hx, Sem.run_bind, Sem.run_pure, Result.andThen_ok, Go.Lib.run_convert_string_bytes w src dst e (str l) hs hd he]
    have := h (grownCap w (str l).size 0 e) _ (by rw [← hn]; exact grownCap_ge w (str l).size 0 e) (bytesWorld_rd w e l) (bytesWorld_below w e (str l)) (by rw [Go.Lib.bytesWorld_size]; omega)
    rw [← hn] at this
    exact hK _ _ this
/-- Bytes that an append elsewhere leaves. -/
theorem Rd.onto {w w' : World} {v v' : Value} {a : Option Addr} {l : List Value} (h : Rd w a l) (ho : Onto w v w' v') (hs : ∀ b off, a = some ⟨b, off, none⟩ → v.ownBlock ≠ some b) : Rd w' a l := by
  rcases h with h | ⟨b, off, ha, hlt, hc⟩
  · exact .inl h
  · exact .inr ⟨b, off, ha, Nat.lt_of_lt_of_le hlt ho.grown.size, fun k hk => (World.cell?_of_block (a := ⟨b, off + k, none⟩) (ho.same hlt (hs b off ha))).trans (hc k hk)⟩
theorem RdB.onto {w w' : World} {v v' : Value} {b off : Nat} {l : List UInt8} (h : RdB w (some ⟨b, off, none⟩) l) (ho : Onto w v w' v') (hs : v.ownBlock ≠ some b) : RdB w' (some ⟨b, off, none⟩) l :=
  Rd.onto h ho fun b' off' e => by simp only [Option.some.injEq, Addr.mk.injEq, and_true] at e; rw [← e.1]; exact hs
theorem RdB.byte {w : World} {b off : Nat} {l : List UInt8} (h : RdB w (some ⟨b, off, none⟩) l) (k : Nat) (hk : k < l.length) : w.cell? ⟨b, off + k, none⟩ = some (.int .u8 (l[k].toNat : Int)) := by
  obtain ⟨b', off', e, _, hc⟩ := h.at (Nat.lt_of_le_of_lt (Nat.zero_le _) hk)
  simp only [Option.some.injEq, Addr.mk.injEq, and_true] at e
  rw [e.1, e.2]
  exact hc k hk
end Go.Proofs.YtlchnfjbcefkoaaGreat
