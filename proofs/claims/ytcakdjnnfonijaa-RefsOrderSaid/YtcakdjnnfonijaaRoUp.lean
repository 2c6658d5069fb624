/- container/heap over refs.ready: up, down, Push, Pop. -/
import Derived.Test.YtcakdjnnfonijaaRoHp
namespace Go.Proofs.Ytcakdjnnfonijaa
open Go.RowKit

/-- A method of a pointer's table. -/
theorem run_method {P : Program} {w : World} {t et : TypeId} {i : TypeInfo} {m : Method} {f : FuncId} {b : Bool} {name : String} {k : Nat} (hu : P.underlying t = some (.pointer et)) (hi : P.info? t = some i) (hm : i.methods.find? (fun m => m.name == name) = some m) (hp : m.path = #[]) (hf : m.func = some (f, b)) (p : Addr) (v : Value) (hv : b = false → (loadVar et p).run P w = .ok v w) :
    (method (k + 1) t (.pointer (some p)) name).run P w = .ok (f, if b then .pointer (some p) else v) w := by
  have hpl : m.path.toList = [] := by rw [hp]
  have hpe : m.path.isEmpty = true := by rw [hp]; rfl
  have hch : ∀ a b : String, (Builtin.ssaWrapNilChk_ #[t] t #[.pointer (some p), strVal a, strVal b]).run P w = .ok (.pointer (some p)) w := fun _ _ => rfl
  unfold method
  simp only [Sem.run_bind, typeInfo, hi, Sem.run_pure, Result.andThen_ok, run_program, hm, hpl, follow, hf, receiverAt, run_underlying hu, hpe, if_true]
  cases b with
  | true => simp [Place.get, Sem.run_pure]
  | false =>
    have ha : (asAddr (.pointer (some p))).run P w = .ok p w := rfl
    simp only [Place.get, Sem.run_bind, Sem.run_pure, Result.andThen_ok, hch, ha, hv rfl]
    simp
theorem run_loadBox {w : World} {g : Nat} {v : Value} {H : List Rf} (h : HpAt w g v H) : (loadVar 59 ⟨g, 0, none⟩).run Try.prog w = .ok v w := by
  have hc := h.cell
  go_simp
theorem run_methodB {P : Program} {w : World} {t et : TypeId} {f : FuncId} {b : Bool} {name : String} (hu : P.underlying t = some (.pointer et)) (hm : ((P.info? t).bind fun i => (i.methods.find? (fun m => m.name == name)).map fun m => (m.path.size, m.func)) = some (0, some (f, b)))
    (p : Addr) (v : Value) (hv : b = false → (loadVar et p).run P w = .ok v w) : (method (P.types.size + Made.depth) t (.pointer (some p)) name).run P w = .ok (f, if b then .pointer (some p) else v) w := by
  cases hi : P.info? t with
  | none => rw [hi] at hm; cases hm
  | some i =>
    rw [hi] at hm
    have hm : ((i.methods.find? (fun m => m.name == name)).map fun m => (m.path.size, m.func)) = some (0, some (f, b)) := hm
    cases hf : i.methods.find? (fun m => m.name == name) with
    | none => rw [hf] at hm; cases hm
    | some m =>
      rw [hf] at hm
      simp only [Option.map_some, Option.some.injEq, Prod.mk.injEq] at hm
      exact run_method (k := P.types.size + 99) hu hi hf (Array.eq_empty_of_size_eq_zero hm.1) hm.2 p v hv
set_option maxRecDepth 100000 in
theorem mt_len {w : World} {g : Nat} {v : Value} {H : List Rf} (h : HpAt w g v H) : (method (Try.prog.types.size + Made.depth) 58 (.pointer (some ⟨g, 0, none⟩)) "Len").run Try.prog w = .ok (30, v) w :=
  run_methodB (b := false) Try.underlying58 (by kernel_rfl) _ v fun _ => run_loadBox h
set_option maxRecDepth 100000 in
theorem mt_less {w : World} {g : Nat} {v : Value} {H : List Rf} (h : HpAt w g v H) : (method (Try.prog.types.size + Made.depth) 58 (.pointer (some ⟨g, 0, none⟩)) "Less").run Try.prog w = .ok (97, v) w :=
  run_methodB (b := false) Try.underlying58 (by kernel_rfl) _ v fun _ => run_loadBox h
set_option maxRecDepth 100000 in
theorem mt_swap {w : World} {g : Nat} {v : Value} {H : List Rf} (h : HpAt w g v H) : (method (Try.prog.types.size + Made.depth) 58 (.pointer (some ⟨g, 0, none⟩)) "Swap").run Try.prog w = .ok (100, v) w :=
  run_methodB (b := false) Try.underlying58 (by kernel_rfl) _ v fun _ => run_loadBox h
set_option maxRecDepth 100000 in
theorem mt_push (w : World) (g : Nat) : (method (Try.prog.types.size + Made.depth) 58 (.pointer (some ⟨g, 0, none⟩)) "Push").run Try.prog w = .ok (99, .pointer (some ⟨g, 0, none⟩)) w :=
  run_methodB (b := true) Try.underlying58 (by kernel_rfl) _ undef fun h => by cases h
set_option maxRecDepth 100000 in
theorem mt_pop (w : World) (g : Nat) : (method (Try.prog.types.size + Made.depth) 58 (.pointer (some ⟨g, 0, none⟩)) "Pop").run Try.prog w = .ok (98, .pointer (some ⟨g, 0, none⟩)) w :=
  run_methodB (b := true) Try.underlying58 (by kernel_rfl) _ undef fun h => by cases h
/-- A method called through an interface, as a step. -/
theorem step_invoke {P : Program} {ops : Array Oper} {rest : List Oper} {o : Oper} {act : Act} {Q : Exit → Act → World → Prop} {w : World} (hw : Region.wanted o (yielded ops act.tmps) = true) (r : Operand) (name : String) (args : Array Operand) (tys : Array TypeId) (ho : o.op = .call { callee := .invoke r name, args := args, argTypes := tys })
    {t : TypeId} {x rc : Value} {f : FuncId} {fn : Func} (hr : act.eval r = .iface t x) (hm : (method (P.types.size + Made.depth) t x name).run P w = .ok (f, rc) w) (hf : P.funcs[f]? = some fn) (hb : fn.body.isNone = false) (hnm : (fn.name == "runtime.NumGoroutine") = false) (l : List Value) (hl : args.toList.map act.eval = l)
    (h : Calls P f (rc :: l).toArray w fun
      | .returned v, w'' => wpList P ops Q rest (act.put o.dst v) w''
      | .panicked chain, w'' => Q (.panic chain) act w''
      | .outgrown, _ => LetsOut Q) : wpList P ops Q (o :: rest) act w :=
  wpList_step fun K hK => by
    rw [if_pos hw]
    refine wp_invoke r name args tys ho hr hm hf hb hnm ?_
    have e : #[rc] ++ args.map act.eval = (rc :: l).toArray := by
      apply Array.ext'
      simp [hl]
    rw [e]
    refine h.mono fun e w'' he => ?_
    cases e with
    | returned v => exact hK _ _ he
    | panicked c => exact he
    | outgrown => exact he
set_option maxRecDepth 100000 in
set_option maxHeartbeats 1000000 in
theorem up_any (g : Nat) (v : Value) (H : List Rf) (n j : Nat) (w : World) (h : HpAt w g v H) (hn : n ≤ H.length) (hj : j < n) (hu : UpEx ltR H n j) (hsz : H.length ≤ 1000000) :
    Calls Try.prog 47 #[.iface 58 (.pointer (some ⟨g, 0, none⟩)), .int .i64 (j : Int)] w fun e w' => e = .returned (.tuple #[]) ∧ ∃ H', HpAt w' g v H' ∧ H'.Perm H ∧ IsHp ltR H' n ∧ HUp w g v w' v := by
  have HN := Lib.hid hn
  have HS := Lib.hid hsz
  have H0 : Hid (∃ (k : Nat) (H' : List Rf), j = k ∧ k < n ∧ HpAt w g v H' ∧ H'.Perm H ∧ UpEx ltR H' n k ∧ HUp w g v w v) := ⟨j, H, rfl, hj, h, .refl _, hu, HUp.refl _ _ _⟩
  clear h hn hu
  go_enter Try.func47, Try.ntmps47
  go_wp2
  go_loopw [1] (fun i wr => ∃ (k : Nat) (H' : List Rf), i = .int .i64 (k : Int) ∧ k < n ∧ HpAt wr g v H' ∧ H'.Perm H ∧ UpEx ltR H' n k ∧ HUp w g v wr v) (fun i _ => (intOf i).toNat)
  case atStart =>
    obtain ⟨k, H', e, r⟩ := H0.out
    exact ⟨k, H', by rw [e], r⟩
  case round =>
    obtain ⟨k, H', rfl, hk, hh, hpm, hu, hup⟩ := hrel
    have hHl : H'.length = H.length := hpm.length_eq
    have hkH : k < H'.length := by have := HN.out; omega
    have hkb : k < 1000000 := by omega
    by_cases hk0 : k = 0
    · have hq : ((k : Int) - 1).tdiv 2 = (k : Int) := by rw [hk0]; rfl
      have HE : Hid (∃ H', HpAt wr g v H' ∧ H'.Perm H ∧ IsHp ltR H' n ∧ HUp w g v wr v) := ⟨H', hh, hpm, hu.done (.inl hk0), hup⟩
      clear hk0 hh hpm hu hup hHl hkH H0
      go_wp2
      exact ⟨rfl, _, results_none rfl _ _ _, rfl, HE.out⟩
    · obtain ⟨i, hi⟩ : ∃ i, (k - 1) / 2 = i := ⟨_, rfl⟩
      have hq : ((k : Int) - 1).tdiv 2 = (i : Int) := by
        rw [show (k : Int) - 1 = ((k - 1 : Nat) : Int) by omega, Int.tdiv_eq_ediv_of_nonneg (by omega)]
        omega
      have hne : ((i : Int) == (k : Int)) = false := by simp; omega
      have hiH : i < H'.length := by omega
      have hib : i < 1000000 := by omega
      have hik : i < k := by omega
      obtain ⟨b, hb⟩ : ∃ b, ltR (hp H' k) (hp H' i) = b := ⟨_, rfl⟩
      have HM := Lib.hid (mt_less hh)
      have HL : Hid (Calls Try.prog 97 #[v, .int .i64 (k : Int), .int .i64 (i : Int)] wr fun e w' => e = .returned (.bool b) ∧ Below wr.heap.size wr w') := by
        have := rless_any v H' k i wr hh.own hkH hiH
        rw [hb] at this
        exact this
      have HM2 : Hid (∀ W, Below wr.heap.size wr W → (method (Try.prog.types.size + Made.depth) 58 (.pointer (some ⟨g, 0, none⟩)) "Swap").run Try.prog W = .ok (100, v) W) := fun W hW => mt_swap (hh.later hW)
      have HS2 : Hid (∀ W, Below wr.heap.size wr W → Calls Try.prog 100 #[v, .int .i64 (i : Int), .int .i64 (k : Int)] W fun e w' => e = .returned (.tuple #[]) ∧ HpAt w' g v (swapL H' i k) ∧ HUp w g v w' v) := fun W hW =>
        (rswap_any v H' i k W (hh.later hW).own hiH hkH).mono fun e w' q => ⟨q.1, ((hh.later hW).swap q.2.1 q.2.2).1, (hup.trans (HUp.below hW)).trans ((hh.later hW).swap q.2.1 q.2.2).2⟩
      have HH := Lib.hid hh
      have HP := Lib.hid hpm
      have HU := Lib.hid hu
      have HUP := Lib.hid hup
      have HI := Lib.hid hi
      have HBB := Lib.hid hb
      clear hh hpm hu hup hHl H0 hi hb
      cases b with
      | false =>
        have HE : Hid (∀ W, Below wr.heap.size wr W → ∃ H', HpAt W g v H' ∧ H'.Perm H ∧ IsHp ltR H' n ∧ HUp w g v W v) := fun W hW => ⟨H', HH.out.later hW, HP.out, HU.out.done (.inr (by rw [HI.out]; exact HBB.out)), HUP.out.trans (HUp.below hW)⟩
        go_wp2_with (refine step_invoke (by rfl) (.tmp 12) "Less" #[.tmp 13, .tmp 14] _ rfl rfl HM.out rfl rfl rfl _ rfl ?_; refine HL.out.mono ?_; rintro _ w2 ⟨rfl, hb2⟩)
        exact ⟨rfl, _, results_none rfl _ _ _, rfl, HE.out _ hb2⟩
      | true =>
        go_wp2_with (first
          | (refine step_invoke (by rfl) (.tmp 12) "Less" #[.tmp 13, .tmp 14] _ rfl rfl HM.out rfl rfl rfl _ rfl ?_; refine HL.out.mono ?_; rintro _ w2 ⟨rfl, hb2⟩)
          | (refine step_invoke (by rfl) (.tmp 18) "Swap" #[.tmp 19, .tmp 20] _ rfl rfl (HM2.out _ hb2) rfl rfl rfl _ rfl ?_; refine (HS2.out _ hb2).mono ?_; rintro _ w3 ⟨rfl, hh3, hup3⟩))
        have hst := UpEx.step totR HU.out (by have := HN.out; have := HP.out.length_eq; omega) hk (by omega) (by rw [HI.out]; exact HBB.out)
        rw [HI.out] at hst
        refine ⟨⟨i, swapL H' i k, rfl, by omega, hh3, (swapL_perm hiH hkH).trans HP.out, hst, hup3⟩, ?_⟩
        show (i : Int).toNat < (k : Int).toNat
        omega
set_option maxRecDepth 100000 in
set_option maxHeartbeats 1000000 in
theorem down_any (g : Nat) (v : Value) (H : List Rf) (n : Nat) (w : World) (h : HpAt w g v H) (hn : n ≤ H.length) (hd : DnEx ltR H n 0) (hsz : H.length ≤ 1000000) :
    Calls Try.prog 48 #[.iface 58 (.pointer (some ⟨g, 0, none⟩)), .int .i64 0, .int .i64 (n : Int)] w fun e w' => (∃ b, e = .returned (.bool b)) ∧ ∃ H', HpAt w' g v H' ∧ H'.Perm H ∧ IsHp ltR H' n ∧ (∀ k, n ≤ k → hp H' k = hp H k) ∧ HUp w g v w' v := by
  have HN := Lib.hid hn
  have H0 : Hid (∃ (k : Nat) (H' : List Rf), (0 : Int) = (k : Int) ∧ k ≤ n ∧ HpAt w g v H' ∧ H'.Perm H ∧ DnEx ltR H' n k ∧ (∀ k, n ≤ k → hp H' k = hp H k) ∧ HUp w g v w v) := ⟨0, H, rfl, Nat.zero_le _, h, .refl _, hd, fun _ _ => rfl, HUp.refl _ _ _⟩
  have hnb : n ≤ 1000000 := by omega
  clear h hn hd
  go_enter Try.func48, Try.ntmps48
  go_wp2
  go_loopw [7] (fun i wr => ∃ (k : Nat) (H' : List Rf), i = .int .i64 (k : Int) ∧ k ≤ n ∧ HpAt wr g v H' ∧ H'.Perm H ∧ DnEx ltR H' n k ∧ (∀ k, n ≤ k → hp H' k = hp H k) ∧ HUp w g v wr v) (fun i _ => n - (intOf i).toNat)
  case atStart =>
    obtain ⟨k, H', e, r⟩ := H0.out
    exact ⟨k, H', by rw [← e], r⟩
  case round =>
    obtain ⟨k, H', rfl, hk, hh, hpm, hd, ht, hup⟩ := hrel
    have hHl : n ≤ H'.length := by have := HN.out; have := hpm.length_eq; omega
    have hkb : k ≤ 1000000 := by omega
    obtain ⟨j1, hj1⟩ : ∃ j : Nat, 2 * (k : Int) + 1 = (j : Int) := ⟨2 * k + 1, by omega⟩
    obtain ⟨j2, hj2⟩ : ∃ j : Nat, (j1 : Int) + 1 = (j : Int) := ⟨j1 + 1, by omega⟩
    have hj1b : j1 ≤ 2000001 := by omega
    have hj2b : j2 ≤ 2000002 := by omega
    have hj1e : j1 = 2 * k + 1 := by omega
    have hj2e : j2 = 2 * k + 2 := by omega
    have HH := Lib.hid hh
    have HP := Lib.hid hpm
    have HD := Lib.hid hd
    have HT := Lib.hid ht
    have HUP := Lib.hid hup
    have HM := Lib.hid (mt_less hh)
    have HM1 : Hid (∀ W, Below wr.heap.size wr W → (method (Try.prog.types.size + Made.depth) 58 (.pointer (some ⟨g, 0, none⟩)) "Less").run Try.prog W = .ok (97, v) W) := fun W hW => mt_less (hh.later hW)
    have HM2 : Hid (∀ W, Below wr.heap.size wr W → (method (Try.prog.types.size + Made.depth) 58 (.pointer (some ⟨g, 0, none⟩)) "Swap").run Try.prog W = .ok (100, v) W) := fun W hW => mt_swap (hh.later hW)
    have hless : ∀ W, Below wr.heap.size wr W → ∀ a b : Nat, a < n → b < n → Calls Try.prog 97 #[v, .int .i64 (a : Int), .int .i64 (b : Int)] W fun e w' => e = .returned (.bool (ltR (hp H' a) (hp H' b))) ∧ Below wr.heap.size wr w' := fun W hW a b ha hb =>
      (rless_any v H' a b W (hh.later hW).own (by omega) (by omega)).mono fun e w' q => ⟨q.1, below_trans hW q.2⟩
    by_cases hc1 : n ≤ j1
    · have HE : Hid (∃ H', HpAt wr g v H' ∧ H'.Perm H ∧ IsHp ltR H' n ∧ (∀ k, n ≤ k → hp H' k = hp H k) ∧ HUp w g v wr v) := ⟨H', hh, hpm, hd.done totR (.inl (by omega)), ht, hup⟩
      clear hj1e hj2e hh hpm hd ht hup hless H0
      go_wp2
      go_ret
      exact ⟨⟨_, rfl⟩, HE.out⟩
    · obtain ⟨j, hj⟩ : ∃ j, chL ltR H' n k = j := ⟨_, rfl⟩
      obtain ⟨q1, q2, q3, q4⟩ := chL_in (lt := ltR) (H := H') (n := n) (i := k) (by omega)
      rw [hj] at q1 q2 q3 q4
      have hkn : k < n := by omega
      obtain ⟨c, hcc⟩ : ∃ c, ltR (hp H' j) (hp H' k) = c := ⟨_, rfl⟩
      have HL2 : Hid (∀ W, Below wr.heap.size wr W → Calls Try.prog 97 #[v, .int .i64 (j : Int), .int .i64 (k : Int)] W fun e w' => e = .returned (.bool c) ∧ Below wr.heap.size wr w') := fun W hW => by
        have := hless W hW j k q1 hkn
        rw [hcc] at this
        exact this
      have HS2 : Hid (∀ W, Below wr.heap.size wr W → Calls Try.prog 100 #[v, .int .i64 (k : Int), .int .i64 (j : Int)] W fun e w' => e = .returned (.tuple #[]) ∧ HpAt w' g v (swapL H' k j) ∧ HUp w g v w' v) := fun W hW =>
        (rswap_any v H' k j W (hh.later hW).own (by omega) (by omega)).mono fun e w' q => ⟨q.1, ((hh.later hW).swap q.2.1 q.2.2).1, (hup.trans (HUp.below hW)).trans ((hh.later hW).swap q.2.1 q.2.2).2⟩
      have HJ := Lib.hid hj
      have HC := Lib.hid hcc
      have hjk : k < j := by omega
      have HN3 : Hid (∀ W, c = true → HpAt W g v (swapL H' k j) → HUp w g v W v → (∃ (k_1 : Nat) (H' : List Rf), Value.int .i64 (j : Int) = .int .i64 (k_1 : Int) ∧ k_1 ≤ n ∧ HpAt W g v H' ∧ H'.Perm H ∧ DnEx ltR H' n k_1 ∧ (∀ k, n ≤ k → hp H' k = hp H k) ∧ HUp w g v W v) ∧ n - (j : Int).toNat < n - (k : Int).toNat) := fun W hct h1 h2 => by
        refine ⟨⟨j, swapL H' k j, rfl, by omega, h1, (swapL_perm (by omega) (by omega)).trans hpm, ?_, fun m hm => ?_, h2⟩, by omega⟩
        · have := DnEx.step totR hd hHl (by omega) (by rw [hj, hcc]; exact hct)
          rw [hj] at this
          exact this
        · rw [hp_swap (by omega) (by omega), if_neg (by omega), if_neg (by omega)]
          exact ht m hm
      have hc2 : ¬ n ≤ j1 := hc1
      have hjx := hj
      unfold chL at hjx
      rw [← hj1e, ← hj2e] at hjx
      clear hh hpm hd ht hup H0 hj hcc q2 q3 q4
      by_cases hc3 : j2 < n
      · obtain ⟨b, hb⟩ : ∃ b, ltR (hp H' j2) (hp H' j1) = b := ⟨_, rfl⟩
        have HL1 : Hid (Calls Try.prog 97 #[v, .int .i64 (j2 : Int), .int .i64 (j1 : Int)] wr fun e w' => e = .returned (.bool b) ∧ Below wr.heap.size wr w') := by
          have := hless wr (Below.refl _ _) j2 j1 hc3 (by omega)
          rw [hb] at this
          exact this
        rw [hb] at hjx
        clear hless hb hj1e hj2e
        cases b with
        | true =>
          have hjj : j2 = j := by rw [← hjx]; simp [hc3]
          subst hjj
          clear hjx
          cases c with
          | false =>
            have HE : Hid (∀ W, Below wr.heap.size wr W → ∃ H', HpAt W g v H' ∧ H'.Perm H ∧ IsHp ltR H' n ∧ (∀ k, n ≤ k → hp H' k = hp H k) ∧ HUp w g v W v) := fun W hW => ⟨H', HH.out.later hW, HP.out, HD.out.done totR (.inr (by rw [HJ.out]; exact HC.out)), HT.out, HUP.out.trans (HUp.below hW)⟩
            go_wp2_with (first
              | (refine step_invoke (by rfl) (.tmp 29) "Less" #[.tmp 30, .tmp 31] _ rfl rfl HM.out rfl rfl rfl _ rfl ?_; refine HL1.out.mono ?_; rintro _ w2 ⟨rfl, hb2⟩)
              | (refine step_invoke (by rfl) (.tmp 35) "Less" #[.tmp 36, .tmp 37] _ rfl rfl (HM1.out _ hb2) rfl rfl rfl _ rfl ?_; refine (HL2.out _ hb2).mono ?_; rintro _ w3 ⟨rfl, hb3⟩))
            go_ret
            exact ⟨⟨_, rfl⟩, HE.out _ hb3⟩
          | true =>
            go_wp2_with (first
              | (refine step_invoke (by rfl) (.tmp 29) "Less" #[.tmp 30, .tmp 31] _ rfl rfl HM.out rfl rfl rfl _ rfl ?_; refine HL1.out.mono ?_; rintro _ w2 ⟨rfl, hb2⟩)
              | (refine step_invoke (by rfl) (.tmp 35) "Less" #[.tmp 36, .tmp 37] _ rfl rfl (HM1.out _ hb2) rfl rfl rfl _ rfl ?_; refine (HL2.out _ hb2).mono ?_; rintro _ w3 ⟨rfl, hb3⟩)
              | (refine step_invoke (by rfl) (.tmp 40) "Swap" #[.tmp 41, .tmp 42] _ rfl rfl (HM2.out _ hb3) rfl rfl rfl _ rfl ?_; refine (HS2.out _ hb3).mono ?_; rintro _ w4 ⟨rfl, hh4, hup4⟩))
            exact HN3.out _ trivial hh4 hup4
        | false =>
          have hjj : j1 = j := by rw [← hjx]; simp
          subst hjj
          clear hjx
          cases c with
          | false =>
            have HE : Hid (∀ W, Below wr.heap.size wr W → ∃ H', HpAt W g v H' ∧ H'.Perm H ∧ IsHp ltR H' n ∧ (∀ k, n ≤ k → hp H' k = hp H k) ∧ HUp w g v W v) := fun W hW => ⟨H', HH.out.later hW, HP.out, HD.out.done totR (.inr (by rw [HJ.out]; exact HC.out)), HT.out, HUP.out.trans (HUp.below hW)⟩
            go_wp2_with (first
              | (refine step_invoke (by rfl) (.tmp 29) "Less" #[.tmp 30, .tmp 31] _ rfl rfl HM.out rfl rfl rfl _ rfl ?_; refine HL1.out.mono ?_; rintro _ w2 ⟨rfl, hb2⟩)
              | (refine step_invoke (by rfl) (.tmp 35) "Less" #[.tmp 36, .tmp 37] _ rfl rfl (HM1.out _ hb2) rfl rfl rfl _ rfl ?_; refine (HL2.out _ hb2).mono ?_; rintro _ w3 ⟨rfl, hb3⟩))
            go_ret
            exact ⟨⟨_, rfl⟩, HE.out _ hb3⟩
          | true =>
            go_wp2_with (first
              | (refine step_invoke (by rfl) (.tmp 29) "Less" #[.tmp 30, .tmp 31] _ rfl rfl HM.out rfl rfl rfl _ rfl ?_; refine HL1.out.mono ?_; rintro _ w2 ⟨rfl, hb2⟩)
              | (refine step_invoke (by rfl) (.tmp 35) "Less" #[.tmp 36, .tmp 37] _ rfl rfl (HM1.out _ hb2) rfl rfl rfl _ rfl ?_; refine (HL2.out _ hb2).mono ?_; rintro _ w3 ⟨rfl, hb3⟩)
              | (refine step_invoke (by rfl) (.tmp 40) "Swap" #[.tmp 41, .tmp 42] _ rfl rfl (HM2.out _ hb3) rfl rfl rfl _ rfl ?_; refine (HS2.out _ hb3).mono ?_; rintro _ w4 ⟨rfl, hh4, hup4⟩))
            exact HN3.out _ trivial hh4 hup4
      · have hjj : j1 = j := by rw [← hjx]; simp [hc3]
        subst hjj
        have HBR : Hid (Below wr.heap.size wr wr) := Below.refl _ _
        clear hless hj1e hj2e hjx
        cases c with
        | false =>
          have HE : Hid (∀ W, Below wr.heap.size wr W → ∃ H', HpAt W g v H' ∧ H'.Perm H ∧ IsHp ltR H' n ∧ (∀ k, n ≤ k → hp H' k = hp H k) ∧ HUp w g v W v) := fun W hW => ⟨H', HH.out.later hW, HP.out, HD.out.done totR (.inr (by rw [HJ.out]; exact HC.out)), HT.out, HUP.out.trans (HUp.below hW)⟩
          go_wp2_with (first
            | fail
            | (refine step_invoke (by rfl) (.tmp 35) "Less" #[.tmp 36, .tmp 37] _ rfl rfl (HM1.out _ HBR.out) rfl rfl rfl _ rfl ?_; refine (HL2.out _ HBR.out).mono ?_; rintro _ w3 ⟨rfl, hb3⟩))
          go_ret
          exact ⟨⟨_, rfl⟩, HE.out _ hb3⟩
        | true =>
          go_wp2_with (first
            | fail
            | (refine step_invoke (by rfl) (.tmp 35) "Less" #[.tmp 36, .tmp 37] _ rfl rfl (HM1.out _ HBR.out) rfl rfl rfl _ rfl ?_; refine (HL2.out _ HBR.out).mono ?_; rintro _ w3 ⟨rfl, hb3⟩)
            | (refine step_invoke (by rfl) (.tmp 40) "Swap" #[.tmp 41, .tmp 42] _ rfl rfl (HM2.out _ hb3) rfl rfl rfl _ rfl ?_; refine (HS2.out _ hb3).mono ?_; rintro _ w4 ⟨rfl, hh4, hup4⟩))
          exact HN3.out _ trivial hh4 hup4
end Go.Proofs.Ytcakdjnnfonijaa
