/- (*disk.Disk).Pieces: where the pieces are. -/
import Derived.Test.YtchdipakekglmaaDkCopy
namespace Go.Proofs.Ytchdipakekglmaa
open Go.RowKit

theorem eltI : Elt Try.prog 24 3 1 8 (.int .i64 0) := ⟨Try.underlying24, by kernel_rfl, by kernel_rfl, by decide⟩
def OwnI (w : World) (base : Nat) (v : Value) (l : List Int) : Prop := w.ownsRow base 3 1 v l.length (l.map (Value.int .i64))
theorem OwnI.nil (w : World) (base : Nat) : OwnI w base (.slice none 0 0) [] := World.ownsRow_nil _ _ _ _
theorem OwnI.later {w w' : World} (hb : Below w.heap.size w w') {base : Nat} {v : Value} {l : List Int} (h : OwnI w base v l) : OwnI w' base v l := own_keep (KeepA.of_below (X := fun _ => False) hb) h fun _ _ h => h
theorem OwnI.rd {w : World} {base : Nat} {v : Value} {l : List Int} (h : OwnI w base v l) : ∃ a cap, v = .slice a l.length cap ∧ l.length ≤ cap ∧ RdI w a l := Rd.of_own h
theorem OwnI.lt {w : World} {base : Nat} {v : Value} {l : List Int} (h : OwnI w base v l) {g : Nat} (hg : v.ownBlock = some g) : base ≤ g := (World.ownsRow.lt h g hg).1
theorem step_pushI {ops : Array Oper} {rest : List Oper} {o : Oper} {act : Act} {Q : Exit → Act → World → Prop} {w : World} (hgd : o.guard = none) (s x : Operand) (ho : o.op = .call { callee := .builtin .append, args := #[s, x], argTypes := #[24, 24] })
    (base : Nat) (v : Value) (l : List Int) (hv : act.eval s = v) (g : Nat) (i : Int) (hx : act.eval x = .slice (some ⟨g, 0, none⟩) 1 1) (hown : OwnI w base v l) (hg : RowAt w g 3 #[.int .i64 i]) (hsz : l.length ≤ 1000000) (hbase : base ≤ w.heap.size)
    (h : ∀ v' w', OwnI w' base v' (l ++ [i]) → w.grownBy w' v.ownBlock → NewRow w v v' → wpList Try.prog ops Q rest (act.put o.dst v') w') : wpList Try.prog ops Q (o :: rest) act w := by
  refine step_append hgd s x ho eltI base v l.length (l.map (Value.int .i64)) hv _ 1 1 [.int .i64 i] hx hown rfl (.inr ⟨g, 0, rfl, hg.lt, fun k hk => ?_⟩) (fun u hu => by rw [List.mem_singleton.1 hu]; rfl) (by omega) (by omega) hbase fun v' w' h1 h2 h3 => h v' w' ?_ h2 h3
  · have : k = 0 := by simpa using hk
    subst this
    exact hg.cell 0
  · unfold OwnI
    rw [List.length_append, List.map_append]
    exact h1
theorem values_any (w : World) (a : Option Addr) (n cap : Nat) : Calls Try.prog 19 #[.slice a n cap] w fun e w' => e = .returned (.func (.func 31) #[] #[.pointer (some ⟨w.heap.size, 0, none⟩)]) ∧ w' = w.alloc (.cells #[.slice a n cap] 24) := by
  go_enter Try.func19, Try.ntmps19
  go_wp2
  go_ret
  exact ⟨rfl, rfl⟩
set_option maxRecDepth 100000 in
set_option maxHeartbeats 1000000 in
theorem pieces_any (w : World) (base b : Nat) (D : DK) (F : Nat) (hI : IsDk w base b D F) (hp : D.pcs.length ≤ 1000000) :
    Calls Try.prog 8 #[.pointer (some ⟨b, 0, none⟩)] w fun e w' => (∃ bx a cap, e = .returned (.func (.func 31) #[] #[.pointer (some ⟨bx, 0, none⟩)]) ∧ RowAt w' bx 24 #[.slice a D.pcs.length cap] ∧ w.heap.size ≤ bx ∧ D.pcs.length ≤ cap ∧ RdI w' a (D.pcs.map (·.1)) ∧ ∀ ad, a = some ad → w.heap.size ≤ ad.block) ∧ Below w.heap.size w w' := by
  obtain ⟨m, pv, fv, fl, st, h, hF⟩ := hI
  obtain ⟨np, hnp⟩ : ∃ x, D.pcs.length = x := ⟨_, rfl⟩
  obtain ⟨pa, pc, rfl, hpc, hrd⟩ := Rd.of_own h.pcs
  have hbs : b < w.heap.size := h.hd.lt
  rw [hnp] at hp hpc h ⊢
  have HN := Lib.hid hnp
  have HNO := Lib.hid (fun w hh => none_any w b D.size (.map (some m)) (.slice pa np pc) fv st hh h.size.1)
  have HD := Lib.hid h.hd
  have H5 := Lib.hid h.psec
  have HRD := Lib.hid (show RdPc w pa D.pcs from hrd)
  clear h hrd hnp
  go_enter Try.func8, Try.ntmps8
  go_wp2_with fail
  refine (HNO.out _ HD.out).mono ?_
  rintro _ w0 ⟨rfl, rfl⟩
  obtain ⟨_, _, c2, _, _⟩ := DkHd.cells HD.out
  obtain ⟨g, hg⟩ : ∃ x, w0.heap.size = x := ⟨_, rfl⟩
  go_wp2
  clear c2
  go_loopw [3, 14] (fun v i wr => Below g w0 wr ∧ ∃ k : Nat, k ≤ np ∧ i = .int .i64 k ∧ OwnI wr g v ((D.pcs.take k).map (·.1))) (fun _ i _ => np - (intOf i).toNat)
  case atStart => exact ⟨Below.refl _ _, 0, Nat.zero_le _, rfl, OwnI.nil _ _⟩
  case round =>
    obtain ⟨hb, k, hk, rfl, ho⟩ := hrel
    obtain ⟨T, hT⟩ : ∃ T, (D.pcs.take k).map (·.1) = T := ⟨_, rfl⟩
    have hol : T.length = k := by rw [← hT, List.length_map, List.length_take, HN.out]; omega
    rw [hT] at ho
    have HT := Lib.hid hT
    obtain ⟨oa, oc, hv, hoc, hor⟩ := ho.rd
    rw [hol] at hv hoc
    subst hv
    have HO := Lib.hid ho
    have HOR := Lib.hid hor
    have HB := Lib.hid hb
    have HOL := Lib.hid hol
    clear ho hor hol hT
    by_cases hkn : k < np
    · have hkl : k < D.pcs.length := by rw [HN.out]; exact hkn
      obtain ⟨g2, o2, rfl, hg2, hrow⟩ := (RdPc.rows HRD.out fun p hp => (H5.out p hp).2.2).resolve_left (by intro e; rw [e] at hkl; simp at hkl)
      have hcell := hrow k hkl
      have htk : (D.pcs.take (k + 1)).map (·.1) = (D.pcs.take k).map (·.1) ++ [D.pcs[k].1] := by rw [List.take_succ_eq_append_getElem hkl, List.map_append]; rfl
      obtain ⟨p, hp'⟩ : ∃ p, D.pcs[k] = p := ⟨_, rfl⟩
      obtain ⟨hpp1, hpp2, hpp5⟩ := H5.out p (by rw [← hp']; exact List.getElem_mem hkl)
      rw [hp'] at hcell htk
      have HC : Hid (∀ i v, (pcC p)[i]? = some v → wr.cell? ((⟨g2, o2 + k * 513, none⟩ : Addr).add i) = some v) := fun i v hv => by
        rw [Addr.add_mid]
        refine (hb.cell (p := ⟨g2, _, none⟩) (by dsimp only; omega)).trans (hcell i v ?_)
        rw [pcD_eq hpp5]; exact hv
      have hAg : Agg Try.prog 62 (pcC p).length := by rw [pcC_len hpp5]; exact aggP
      obtain ⟨t1, t2, t3⟩ := piece_store hpp5
      rw [HT.out] at htk
      have HTK := Lib.hid htk
      have hgs := hb.size
      rw [hg] at hgs
      clear hrow hcell hp' htk hb
      obtain ⟨bx, hbx⟩ : ∃ x, wr.heap.size = x := ⟨_, rfl⟩
      have hb1k : (k : Int) < (np : Int) := by omega
      obtain ⟨x, hx⟩ : ∃ x, p.1 = x := ⟨_, rfl⟩
      rw [hx] at HTK
      go_wp2_with (first
        | (refine step_loadCells rfl 62 (.tmp 16) rfl ⟨g2, o2 + k * 513, none⟩ rfl (pcC p) hAg HC.out ?_)
        | (refine step_allocZ rfl 62 rfl zeroP zero_piece ?_; intro w2 q1 q2 q3; rw [hbx] at q1 q3 ⊢)
        | (refine step_storeRow rfl 62 (.tmp 5) (.tmp 17) rfl rfl bx (pcC p).toArray rfl rfl 62 zeroP q1 t1.out t2.out t3.out ?_; intro w3 q4 q5; obtain ⟨r0, r1⟩ := q4.range; rw [hx] at r0; have hb3 : Below wr.heap.size wr w3 := below_grown q2 q5 (by omega) (by intro x hx; have := Option.some.inj hx; omega); have hs3 := hb3.size; have HB3 := Lib.hid hb3; clear r1 q1 q2 q3 q4 q5 hb3)
        | (at_builtin; refine step_pushI rfl (.tmp 18) (.tmp 21) rfl g _ T rfl w3.heap.size x rfl (OwnI.later (below_trans HB3.out (below_alloc _)) HO.out) (RowAt.new _ _ _) (by rw [HOL.out]; omega) (by rw [World.size_alloc]; omega) ?_; intro v' w5 q1 q2 q3))
      have hb5 := KeepA.below (keep_grownO q2) (B := g) (by rw [World.size_alloc]; omega) fun g' e => (OwnI.lt HO.out e)
      refine ⟨⟨HB.out.trans (((HB3.out.mono (by omega)).trans ((below_alloc _).mono (by omega))).trans hb5), k + 1, by omega, by go_num, ?_⟩, by simp [intOf]; omega⟩
      rw [HTK.out]
      exact q1
    · obtain rfl : k = np := by omega
      go_wp2_with fail
      refine (values_any _ _ _ _).mono ?_
      rintro _ w5 ⟨rfl, rfl⟩
      go_wp2_with fail
      go_ret
      have hall : T = D.pcs.map (·.1) := by rw [← HT.out, List.take_of_length_le (by rw [HN.out]; exact Nat.le_refl _)]
      have hgs := HB.out.size
      rw [hg] at hgs
      rw [hg, ← hall]
      exact ⟨⟨wr.heap.size, oa, oc, rfl, RowAt.new _ _ _, hgs, hoc, RdI.later (below_alloc _) HOR.out, fun ad had => OwnI.lt HO.out (by rw [had]; rfl)⟩, HB.out.trans ((below_alloc _).mono hgs)⟩
end Go.Proofs.Ytchdipakekglmaa
