/- lexiconlaw17.WirePuts answers true, whatever the fields; nothing that was there is changed. -/
import Derived.Test.YtomfdiomakjeoaaWireRefPuts
namespace Go.Proofs.Ytomfdiomakjeoaa
open Go.RowKit

theorem RdF.take {w : World} {a : Option Addr} {fs ks : List Fd} (h : RdF w a (fs ++ ks)) : RdF w a fs := by
  rcases h with h | ⟨b, off, ha, hlt, hc⟩
  · refine .inl ?_
    unfold fdsC at h ⊢
    rw [List.flatMap_append] at h
    exact (List.append_eq_nil_iff.1 h).1
  · refine .inr ⟨b, off, ha, hlt, fun k hk => ?_⟩
    have hap : fdsC (fs ++ ks) = fdsC fs ++ fdsC ks := by unfold fdsC; rw [List.flatMap_append]
    have h1 := hc k (by rw [hap, List.length_append]; omega)
    simp only [hap] at h1
    rw [List.getElem_append_left hk] at h1
    exact h1
theorem step_appendF {P : Program} {ops : Array Oper} {rest : List Oper} {o : Oper} {act : Act} {Q : Exit → Act → World → Prop} {w : World} (hgd : o.guard = none) (s x : Operand) {t : TypeId}
    (ho : o.op = .call { callee := .builtin .append, args := #[s, x], argTypes := #[t, t] }) {z : Value} (E : Elt P t 40 4 40 z) (base : Nat)
    (v : Value) (l : List Fd) (hv : act.eval s = v) (a : Option Addr) (m c : Nat) (k : List Fd) (hx : act.eval x = .slice a m c)
    (hown : OwnF w base v l) (hm : m = k.length) (hk : RdF w a k) (hsz : (l.length + k.length) * 40 ≤ 140737488355328) (hbase : base ≤ w.heap.size)
    (h : ∀ v' w', OwnF w' base v' (l ++ k) → Below base w w' → wpList P ops Q rest (act.put o.dst v') w') : wpList P ops Q (o :: rest) act w := by
  refine step_append hgd s x ho E base v l.length (fdsC l) hv a m c (fdsC k) hx hown (by rw [fdsC_length, hm]; omega) hk ?_ (by rw [hm]; omega) (by rw [hm]; omega) hbase fun v' w' h1 h2 _ => ?_
  · intro u hu
    unfold fdsC at hu
    obtain ⟨f, _, hf⟩ := List.mem_flatMap.1 hu
    unfold fdC at hf
    simp at hf
    rcases hf with rfl | rfl | rfl | rfl <;> rfl
  · refine h v' w' ?_ ((Below.refl base w).grown h2 hbase fun g hg => (World.ownsRow.lt hown g hg).1)
    unfold OwnF
    have hap : fdsC (l ++ k) = fdsC l ++ fdsC k := by unfold fdsC; rw [List.flatMap_append]
    rw [hap, List.length_append, ← hm]
    exact h1
set_option maxRecDepth 100000 in
set_option maxHeartbeats 4000000 in
theorem puts_any (a : Option Addr) (fs : List Fd) (m cap : Nat) (w : World) (hm : Hid (m = fs.length)) (hc : m ≤ cap) (hok : Hid (∀ f ∈ fs, f.Ok)) (hl : RdF w a fs) :
    Calls Try.prog 4 #[.slice a m cap] w fun e w' => e = .returned (.bool true) ∧ Below w.heap.size w w' := by
  have HL2 := Lib.hid hl
  clear hl
  by_cases hbig2 : 300 < m
  · go_enter Try.func4, Try.ntmps4
    go_wp2_with (go_at_call 11; refine (works_any _).mono ?_; rintro e w1 ⟨rfl, hb1⟩)
    go_ret
    exact ⟨rfl, hb1⟩
  · go_enter Try.func4, Try.ntmps4
    go_wp2
    go_loopw [3] (fun i wr => w = wr ∧ ∃ k : Nat, k ≤ m ∧ i = .int .i64 k ∧ (∀ f ∈ fs.take k, f.bytes.length ≤ 20000)) (fun i _ => m - (intOf i).toNat)
    case atStart => exact ⟨rfl, 0, Nat.zero_le _, rfl, by simp⟩
    case round =>
      obtain ⟨rfl, k, hk, rfl, hall⟩ := hrel
      have HA := Lib.hid hall
      clear hall
      by_cases hkm : k < m
      · have hkl : k < fs.length := by rw [← hm.out]; exact hkm
        have HS1 := Lib.hid (List.take_succ_eq_append_getElem hkl)
        obtain ⟨b3, o3, rfl, _, hx3⟩ := fd_cells HL2.out (by omega)
        obtain ⟨_, _, _, x3⟩ := hx3 k hkl
        obtain ⟨f, hf⟩ : ∃ f, fs[k] = f := ⟨_, rfl⟩
        rw [hf] at x3
        have HFF := Lib.hid hf
        obtain ⟨s, hs⟩ : ∃ s, str f.bytes = s := ⟨_, rfl⟩
        rw [hs] at x3
        have hsz : s.size = f.bytes.length := by rw [← hs]; simp [str, ByteArray.size]
        obtain ⟨q, hq⟩ : ∃ q, f.bytes.length = q := ⟨_, rfl⟩
        rw [hq] at hsz
        have HQ := Lib.hid hq
        clear hx3 hf hs hq
        by_cases hq2 : 20000 < q
        · go_wp2_with (go_at_call 11; refine (works_any _).mono ?_; rintro e w10 ⟨rfl, hb10⟩; have HB10 := Lib.hid hb10; clear hb10)
          go_ret
          exact ⟨rfl, HB10.out⟩
        · go_wp2
          refine ⟨⟨trivial, k + 1, by omega, by go_num, ?_⟩, by simp [intOf]; omega⟩
          rw [HS1.out, HFF.out]
          intro g hg
          rcases List.mem_append.1 hg with hg | hg
          · exact HA.out g hg
          · rw [List.mem_singleton.1 hg, HQ.out]; omega
      · obtain rfl : m = k := by omega
        have he : fs.take m = fs := by rw [hm.out, List.take_length]
        rw [he] at HA
        have htl := tolds_len fs hok.out HA.out
        rw [← hm.out] at htl
        go_wp2_with (first
          | (at_builtin; refine step_appendF rfl (.tmp 27) (.tmp 28) rfl eltF w.heap.size _ [] rfl _ _ _ fs rfl (own_empty w _ _ 4 (Nat.le_refl _)) hm.out (HL2.out.mono (below_alloc _)) (by rw [← hm.out]; simp; omega) (by simp) ?_; intro v1 w1 h1 h2; have H1 := Lib.hid h1; have H2 := Lib.hid ((below_alloc _).trans h2); clear h1 h2)
          | (at_builtin; refine step_appendF rfl (.tmp 29) (.tmp 31) rfl eltF w.heap.size _ ([] ++ fs) rfl _ _ _ [⟨77, 0, 0, []⟩] rfl (H1.out.kept (below_alloc _) (Nat.le_refl _)) rfl (rd_lit _ _ _ _ _ rfl) (by rw [List.nil_append, ← hm.out]; simp; omega) (by have := H2.out.size; simp; omega) ?_; intro v2 w2 h1 h2; obtain ⟨g2, c2, rfl, hg2, hgs, hc2', hcm2, hr2⟩ := OwnF.some h1 (by simp); have hl2' : ([] ++ fs ++ [(⟨77, 0, 0, []⟩ : Fd)]).length = m + 1 := (by rw [hm.out]; simp); rw [hl2'] at hc2'; rw [hl2']; have HR := Lib.hid hr2; have H3 := Lib.hid ((H2.out.trans ((Below.refl _ w1).alloc H2.out.size _)).trans h2); clear h1 h2 hr2 hl2'))
        have HA2 : Hid (RdF w2 (some ⟨g2, 0, none⟩) (fs ++ [(⟨77, 0, 0, []⟩ : Fd)])) := HR.out
        have HM2 := Lib.hid (RdF.take HA2.out)
        have HBL : Hid (∀ f ∈ fs, f.bytes.length ≤ 1099511627776) := fun f hf => by have := HA.out f hf; omega
        have HLE : Hid ((tolds fs).length + 100 ≤ 140737488355328) := by show _ ≤ _; omega
        clear HR H1 H2 htl HA he
        refine (bytes_any _ fs m c2 w2 hm (by omega) hok HLE (by omega) HM2.out).mono ?_
        rintro e w3 ⟨v3, rfl, ho3, hb3⟩
        obtain ⟨a3, c3, rfl, hc3, hr3⟩ := ho3.rd
        obtain ⟨pl, hpl⟩ : ∃ pl, (bytesOf fs).1 = pl := ⟨_, rfl⟩
        obtain ⟨pe, hpe⟩ : ∃ pe, (bytesOf fs).2 = pe := ⟨_, rfl⟩
        have HB3 := Lib.hid (below_trans H3.out hb3)
        have HA3 := Lib.hid (HA2.out.mono hb3)
        rw [hpl] at hr3 ⊢
        rw [hpe]
        have HR3 := Lib.hid hr3
        clear ho3 hb3 hr3 hc3
        go_wp2_with fail
        have hrb := refbytes_any a fs m cap w3 hm hc hok HLE HBL (by omega) (HL2.out.mono HB3.out)
        rw [hpl, hpe] at hrb
        refine hrb.mono ?_
        rintro e w4 ⟨v4, rfl, ho4, hb4⟩
        obtain ⟨a4, c4, rfl, hc4, hr4⟩ := ho4.rd
        obtain ⟨q, hq⟩ : ∃ q, pl.length = q := ⟨_, rfl⟩
        rw [hq]
        have HB4 := Lib.hid (below_trans HB3.out hb4)
        have HA4 := Lib.hid (HA3.out.mono hb4)
        have HR34 := Lib.hid (HR3.out.mono hb4)
        have HR44 := Lib.hid hr4
        clear ho4 hb4 hr4 hc4 hrb
        go_wp2_with fail
        refine (refsame_any _ a fs m c2 cap w4 hm (by omega) (RdF.take HA4.out) (HL2.out.mono HB4.out)).mono ?_
        rintro e w5 ⟨rfl, hb5⟩
        have HB5 := Lib.hid (below_trans HB4.out hb5)
        obtain ⟨bx, ox, hbx, _, hx⟩ := fd_cells (HA4.out.mono hb5) (by simp)
        simp only [Option.some.injEq, Addr.mk.injEq, and_true] at hbx
        obtain ⟨rfl, rfl⟩ := hbx
        obtain ⟨x0, _, _, _⟩ := hx m (by rw [hm.out]; simp)
        rw [List.getElem_append_right (by rw [hm.out]; exact Nat.le_refl _), Nat.zero_add] at x0
        have x77 : w5.cell? ⟨g2, m * 4, none⟩ = Option.some (.int .i64 77) := by rw [x0]; simp
        have hs3 := run_str (P := Try.prog) w5 23 9 5 a3 q c3 pl Try.underlying23 Try.underlying5 Try.underlying9 hq.symm (HR34.out.mono hb5)
        have hs4 := run_str (P := Try.prog) w5 23 9 5 a4 q c4 pl Try.underlying23 Try.underlying5 Try.underlying9 hq.symm (HR44.out.mono hb5)
        obtain ⟨s, hs⟩ : ∃ s, str pl = s := ⟨_, rfl⟩
        rw [hs] at hs3 hs4
        clear hx x0 hb5 hs hq hpl hpe
        go_wp2_with (first
          | (go_at_call 16; refine (num_any _ _).mono ?_; rintro e _ ⟨rfl, rfl⟩)
          | (go_at_call 11; refine (works_any _).mono ?_; rintro e w10 ⟨rfl, hb10⟩; have HB10 := Lib.hid (below_trans HB5.out hb10); clear hb10))
        go_ret
        exact ⟨rfl, HB10.out⟩
end Go.Proofs.Ytomfdiomakjeoaa
