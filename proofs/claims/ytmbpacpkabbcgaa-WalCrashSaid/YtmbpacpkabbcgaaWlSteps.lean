/- A script's steps: how they lie; vast, right; disk.New refuses. / Lives as they lie; lexiconref02.Right. -/
import Derived.Test.YtmbpacpkabbcgaaWlSame
namespace Go.Proofs.Ytmbpacpkabbcgaa
open Go.RowKit

structure Ws where
  kind : Int
  ba : Option Addr
  bs : List UInt8
  bc : Nat
  fa : Option Addr
  fs : List Ft
  fc : Nat
def wsC (s : Ws) : List Value := [.int .i64 s.kind, .slice s.ba s.bs.length s.bc, .slice s.fa s.fs.length s.fc]
structure WsAt (w : World) (b o : Nat) (s : Ws) : Prop where
  cells : CellsAt w wsC b o s
  bytes : RdB w s.ba s.bs
  bcap : s.bs.length ≤ s.bc
  fates : RdFt w s.fa s.fs
def RdWs (w : World) (a : Option Addr) (l : List Ws) : Prop := RowsAt w a 3 l (WsAt w)
theorem CellsAt.later {α : Type} {C : α → List Value} {w w' : World} (hb : Below w.heap.size w w') {b o : Nat} {x : α} (hlt : b < w.heap.size) (h : CellsAt w C b o x) : CellsAt w' C b o x := fun j v hv => cell_later hb hlt (h j v hv)
theorem RdWs.later {w w' : World} (hb : Below w.heap.size w w') {a : Option Addr} {l : List Ws} (h : RdWs w a l) : RdWs w' a l :=
  RowsAt.imp h hb.size fun _ _ _ hlt h => ⟨h.cells.later hb hlt, h.bytes.mono hb, h.bcap, h.fates.later hb⟩
/-- What is done here. -/
def Ws.small (s : Ws) : Prop := s.bs.length ≤ 20000 ∧ s.fs.length ≤ 50
set_option maxRecDepth 100000 in
theorem vast_any (w : World) (sz fr ln : Int) (a : Option Addr) (l : List Ws) (n cap : Nat) (hn : n = l.length) (hn2 : n ≤ 9223372036854775807) (hlen : ∀ s ∈ l, s.bs.length ≤ 9223372036854775807 ∧ s.fs.length ≤ 9223372036854775807) (hl : RdWs w a l) :
    Calls Try.prog 6 #[.agg #[.int .i64 sz, .int .i64 fr, .int .i64 ln], .slice a n cap] w fun e w' => (∃ r : Bool, e = .returned (.bool r) ∧ (r = false → sz ≤ 60 ∧ n ≤ 50 ∧ ∀ s ∈ l, s.small)) ∧ Below w.heap.size w w' := by
  have HL := Lib.hid hl
  have HN := Lib.hid hn
  have HLE := Lib.hid hlen
  have HBX : Hid (Below w.heap.size w (w.alloc (.cells #[.int .i64 sz, .int .i64 fr, .int .i64 ln] 23))) := below_alloc _
  clear hl hn hlen
  obtain ⟨K, hK⟩ : ∃ K, (fun (e : Ending) (w' : World) => (∃ r : Bool, e = .returned (.bool r) ∧ (r = false → sz ≤ 60 ∧ n ≤ 50 ∧ ∀ s ∈ l, s.small)) ∧ Below w.heap.size w w') = K := ⟨_, rfl⟩
  have HKT : Hid (∀ w', Below w.heap.size w w' → K (.returned (.bool true)) w') := by show ∀ _, _; intro w' h; rw [← hK]; exact ⟨⟨true, rfl, fun h => by cases h⟩, h⟩
  have HKF : Hid (∀ w', Below w.heap.size w w' → sz ≤ 60 → n ≤ 50 → (∀ s ∈ l, s.small) → K (.returned (.bool false)) w') := by show ∀ _, _; intro w' h h1 h2 h3; rw [← hK]; exact ⟨⟨false, rfl, fun _ => ⟨h1, h2, h3⟩⟩, h⟩
  rw [hK]
  clear hK
  by_cases h60 : 60 < sz
  · go_enter Try.func6, Try.ntmps6
    go_wp2
    exact HKT.out _ HBX.out
  by_cases h50 : 50 < (n : Int)
  · go_enter Try.func6, Try.ntmps6
    go_wp2
    exact HKT.out _ HBX.out
  · go_enter Try.func6, Try.ntmps6
    go_wp2
    obtain ⟨W0, hW0⟩ : ∃ x, w.alloc (.cells #[.int .i64 sz, .int .i64 fr, .int .i64 ln] 23) = x := ⟨_, rfl⟩
    rw [hW0] at HBX
    try rw [hW0]
    clear hW0
    go_loopw [5] (fun i wr => wr = W0 ∧ ∃ k : Nat, k ≤ n ∧ i = .int .i64 k ∧ ∀ s ∈ l.take k, s.small) (fun i _ => n - (intOf i).toNat)
    case atStart => exact ⟨rfl, 0, Nat.zero_le _, rfl, fun s hs => by cases hs⟩
    case round =>
      obtain ⟨rfl, k, hk, rfl, hall⟩ := hrel
      have HALL := Lib.hid hall
      clear hall
      by_cases hkn : k < n
      · have hkl : k < l.length := by rw [← HN.out]; exact hkn
        obtain ⟨b2, off, rfl, hlt, hrow⟩ := HL.out.resolve_left (by intro e; rw [e] at hkl; simp at hkl)
        have hst := hrow k hkl
        have htk : ∀ s ∈ l.take (k + 1), s ∈ l.take k ∨ s = l[k] := fun s hs => by rw [List.take_succ_eq_append_getElem hkl] at hs; exact (List.mem_append.1 hs).imp id fun h => List.mem_singleton.1 h
        have hle := HLE.out l[k] (List.getElem_mem hkl)
        obtain ⟨s, hs⟩ : ∃ s, l[k] = s := ⟨_, rfl⟩
        rw [hs] at hst htk hle
        have c1 := cell_later HBX.out hlt (hst.cells 1 _ rfl)
        have c2 := cell_later HBX.out hlt (hst.cells 2 _ rfl)
        obtain ⟨l1, l2⟩ := hle
        have HTK := Lib.hid htk
        have hb1 : (k : Int) < (n : Int) := by omega
        obtain ⟨nb, hnb⟩ : ∃ x, s.bs.length = x := ⟨_, rfl⟩
        obtain ⟨nf, hnf⟩ : ∃ x, s.fs.length = x := ⟨_, rfl⟩
        rw [hnb] at c1 l1
        rw [hnf] at c2 l2
        have HNB := Lib.hid hnb
        have HNF := Lib.hid hnf
        clear hrow hst htk hs hnb hnf
        by_cases t1 : 20000 < (nb : Int)
        · go_wp2
          exact HKT.out _ HBX.out
        by_cases t2 : 50 < (nf : Int)
        · go_wp2
          exact HKT.out _ HBX.out
        go_wp2
        refine ⟨⟨trivial, k + 1, by omega, by go_num, fun s' hs' => ?_⟩, by simp [intOf]; omega⟩
        rcases HTK.out s' hs' with h | rfl
        · exact HALL.out s' h
        · exact ⟨by rw [HNB.out]; omega, by rw [HNF.out]; omega⟩
      · obtain rfl : k = n := by omega
        go_wp2
        have h := HALL.out
        rw [HN.out, List.take_length] at h
        exact HKF.out _ HBX.out (by omega) (by omega) h
set_option maxRecDepth 100000 in
theorem lright_any (w : World) (size : Nat) (fr ln : Int) (hs : size ≤ 65536) :
    Calls Try.prog 8 #[.agg #[.int .i64 (size : Int), .int .i64 fr, .int .i64 ln]] w fun e w' => e = .returned (.int .i64 (askW size fr ln)) ∧ Below w.heap.size w w' := by
  have HBX : Hid (Below w.heap.size w (w.alloc (.cells #[.int .i64 (size : Int), .int .i64 fr, .int .i64 ln] 23))) := below_alloc _
  obtain ⟨r, hr⟩ : ∃ r, askW size fr ln = r := ⟨_, rfl⟩
  have HR := Lib.hid hr
  rw [hr]
  clear hr
  by_cases h1 : ln < 4
  · obtain rfl : 2 = r := by rw [← HR.out]; unfold askW; rw [if_pos (.inl h1)]
    go_enter Try.func8, Try.ntmps8
    go_wp2
    go_ret
    exact ⟨rfl, HBX.out⟩
  by_cases h2 : fr < 0
  · obtain rfl : 2 = r := by rw [← HR.out]; unfold askW; rw [if_pos (.inr h2)]
    go_enter Try.func8, Try.ntmps8
    go_wp2
    go_ret
    exact ⟨rfl, HBX.out⟩
  by_cases h3 : (size : Int) < fr
  · obtain rfl : 4 = r := by rw [← HR.out]; unfold askW; rw [if_neg (by omega), if_pos (.inl h3)]
    go_enter Try.func8, Try.ntmps8
    go_wp2
    go_ret
    exact ⟨rfl, HBX.out⟩
  by_cases h4 : (size : Int) - fr < ln
  · obtain rfl : 4 = r := by rw [← HR.out]; unfold askW; rw [if_neg (by omega), if_pos (.inr h4)]
    go_enter Try.func8, Try.ntmps8
    go_wp2
    go_ret
    exact ⟨rfl, HBX.out⟩
  · obtain rfl : 0 = r := by rw [← HR.out]; unfold askW; rw [if_neg (by omega), if_neg (by omega)]
    go_enter Try.func8, Try.ntmps8
    go_wp2
    go_ret
    exact ⟨rfl, HBX.out⟩
set_option maxRecDepth 100000 in
theorem new_bad (w : World) (sz : Int) (h : sz < 1 ∨ 65536 < sz) : Calls Try.prog 5 #[.int .i64 sz, .slice none 0 0] w fun e w' => e = .returned (.tuple #[.pointer none, .int .i64 2]) ∧ w' = w := by
  by_cases h1 : sz < 1
  · clear h
    go_enter Try.func5, Try.ntmps5
    go_wp2
    go_ret2
    exact ⟨rfl, rfl⟩
  · have h2 : 65536 < sz := by omega
    clear h
    go_enter Try.func5, Try.ntmps5
    go_wp2
    go_ret2
    exact ⟨rfl, rfl⟩
end Go.Proofs.Ytmbpacpkabbcgaa
namespace Go.Proofs.Ytmbpacpkabbcgaa
open Go.RowKit

set_option maxRecDepth 100000 in
theorem rright_any (a : Option Addr) (l : List Ft) (n cap : Nat) (w : World) (hn : n = l.length) (hn2 : n ≤ 9223372036854775807) (hl : RdFt w a l) :
    Calls Try.prog 20 #[.slice a n cap] w fun e w' => e = .returned (.bool (l.all Ft.ok)) ∧ w' = w := by
  have HL := Lib.hid hl
  have HN := Lib.hid hn
  clear hl hn
  obtain ⟨r, hr⟩ : ∃ r, l.all Ft.ok = r := ⟨_, rfl⟩
  have HR := Lib.hid hr
  rw [hr]
  clear hr
  go_enter Try.func20, Try.ntmps20
  go_wp2
  go_loopw [3] (fun i wr => wr = w ∧ ∃ k : Nat, k ≤ n ∧ i = .int .i64 k ∧ (l.take k).all Ft.ok = true) (fun i _ => n - (intOf i).toNat)
  case atStart => exact ⟨rfl, 0, Nat.zero_le _, rfl, rfl⟩
  case round =>
    obtain ⟨rfl, k, hk, rfl, hall⟩ := hrel
    have HA := Lib.hid hall
    clear hall
    by_cases hkn : k < n
    · have hkl : k < l.length := by rw [← HN.out]; omega
      obtain ⟨b2, off, rfl, hlt, hcell⟩ := HL.out.resolve_left (by intro e; rw [e] at hkl; simp at hkl)
      obtain ⟨c0, c1⟩ := hcell k hkl
      have htk := all_take (p := Ft.ok) hkl
      have hdr := all_drop (p := Ft.ok) hkl
      rw [HA.out, Bool.true_and] at htk
      obtain ⟨⟨x, y⟩, hf⟩ : ∃ f, l[k] = f := ⟨_, rfl⟩
      rw [hf] at htk hdr c0 c1
      dsimp only at c0 c1
      have HTK : Hid (0 ≤ x → x ≤ 1 → (l.take (k + 1)).all Ft.ok = true) := fun h1 h2 => by rw [htk]; simp [Ft.ok]; omega
      have HDR : Hid (x < 0 ∨ 1 < x → r = false) := fun h => by rw [← HR.out]; exact hdr (by simp [Ft.ok]; omega)
      have hb1 : (k : Int) < (n : Int) := by omega
      clear hcell hf htk hdr c1
      by_cases t1 : x < 0
      · obtain rfl := HDR.out (.inl t1)
        go_wp2
        go_ret
        exact ⟨rfl, rfl⟩
      by_cases t2 : 1 < x
      · obtain rfl := HDR.out (.inr t2)
        go_wp2
        go_ret
        exact ⟨rfl, rfl⟩
      have HK := Lib.hid (HTK.out (by omega) (by omega))
      go_wp2
      exact ⟨⟨trivial, k + 1, by omega, by go_num, HK.out⟩, by simp [intOf]; omega⟩
    · obtain rfl : k = n := by omega
      have he : r = true := by
        have h := HA.out
        rw [HN.out, List.take_length, HR.out] at h
        exact h
      subst he
      go_wp2
      go_ret
      exact ⟨rfl, rfl⟩
structure Lf where
  fa : Option Addr
  fs : List Ft
  fc : Nat
  sa : Option Addr
  ss : List Ws
  sc : Nat
  pa : Option Addr
  ps : List Int
  pc : Nat
def lfC (l : Lf) : List Value := [.slice l.fa l.fs.length l.fc, .slice l.sa l.ss.length l.sc, .slice l.pa l.ps.length l.pc]
structure LfOk (w : World) (l : Lf) : Prop where
  fates : RdFt w l.fa l.fs
  flen : l.fs.length ≤ 9223372036854775807
  steps : RdWs w l.sa l.ss
  slen : l.ss.length ≤ 9223372036854775807
  sok : ∀ s ∈ l.ss, s.bs.length ≤ 9223372036854775807 ∧ s.fs.length ≤ 9223372036854775807
  picks : RdI w l.pa l.ps
  pcap : l.ps.length ≤ l.pc
  plen : l.ps.length ≤ 9223372036854775807
  prg : ∀ z ∈ l.ps, z < 9223372036854775808
structure LfAt (w : World) (b o : Nat) (l : Lf) : Prop where
  cells : CellsAt w lfC b o l
  ok : LfOk w l
def RdLf (w : World) (a : Option Addr) (l : List Lf) : Prop := RowsAt w a 3 l (LfAt w)
theorem LfOk.later {w w' : World} (hb : Below w.heap.size w w') {l : Lf} (h : LfOk w l) : LfOk w' l := ⟨h.fates.later hb, h.flen, h.steps.later hb, h.slen, h.sok, h.picks.later hb, h.pcap, h.plen, h.prg⟩
theorem RdLf.later {w w' : World} (hb : Below w.heap.size w w') {a : Option Addr} {l : List Lf} (h : RdLf w a l) : RdLf w' a l :=
  RowsAt.imp h hb.size fun _ _ _ hlt h => ⟨h.cells.later hb hlt, h.ok.later hb⟩
end Go.Proofs.Ytmbpacpkabbcgaa
