/- A reckoner of closed runs, 21: the quick form of drawn regions (their schedule is worked out once) and of code. Nothing of the program is used here. -/
import Derived.Test.YtcakdjnnfonijaaEvFast
import Derived.Test.YtcakdjnnfonijaaEvGr
import Derived.Test.YtcakdjnnfonijaaEvDefer
import Derived.Test.YtcakdjnnfonijaaEvJoin
import Derived.Scope
namespace Go.Proofs.Ytcakdjnnfonijaa
open Go.RowKit

/-- In which order a drawn region is reckoned. -/
inductive Sch where
  | fin
  | out
  | nul
  | still (i : Nat) (o : Oper) (r : Sch)
  | act (i : Nat) (o : Oper) (A : Nat) (r : Sch)
  | two (a b : Sch)
  | ado (l : List Grp) (bad : Ans) (r : Sch)
noncomputable def joinS : List Sch → Sch
  | [] => .nul
  | [a] => a
  | a :: b :: r => .two a (joinS (b :: r))
noncomputable def dAdd : List Grp → Nat → Nat
  | [], d => d
  | g :: r, d => dAdd r (doneAdd g d)
noncomputable def mkSch (ops : Array Oper) (tab : List Row) (gs : List Grp) (sz : Nat) : Nat → Nat → Sch
  | 0, _ => .out
  | n + 1, done => match nextStill done tab 0 with
    | some (i, o) => .still i o (mkSch ops tab gs sz n (done ||| 2 ^ i))
    | none => match Nat.beq ((done ||| lateMask gs) + 1) (2 ^ sz) with
      | true => .ado (gs.filter (undone done)) (.no "groups at the end") .fin
      | false => joinS ((readyMs (done ||| lateMask gs) tab 0).map fun x => .ado (gs.filter (needs done (maskOf ops x.2.1).2.2)) (.at x.2.1) (.act x.1 x.2.1 x.2.2 (mkSch ops tab gs sz n (dAdd (gs.filter (needs done (maskOf ops x.2.1).2.2)) done ||| 2 ^ x.1))))
abbrev SSt := Fr → Hp → (AV → Ans) → Ans
noncomputable def plainS (P : Program) (o : Oper) : SSt := fun f h k => Option.rec (.at o) (fun v => fullK v k) (plainV P f h o)
noncomputable def headS (r : Option AV) : Program → Oper → SSt := Option.rec plainS (fun v _ _ _ _ k => headK v k) r
noncomputable def stillV (r : Option AV) : Program → Oper → SSt := Option.rec plainS (fun v _ _ _ _ k => fullK v k) r
noncomputable def genS : Program → Oper → SSt := fun P o f h k => Option.rec (.at o) (fun v => fullK v k) (evStill P f h o)
noncomputable def stillRun (op : Op) : Program → Oper → SSt :=
  Op.rec (motive := fun _ => Program → Oper → SSt)
    (fun x _ _ f _ k => opK x f k)
    (fun x _ _ f _ k => opK x f k)
    (fun _ _ _ => genS) (fun _ => genS) (fun _ _ => genS) (fun _ _ => genS) (fun _ _ _ => genS) (fun _ _ _ _ => genS)
    (fun t a P o f h k => opK a f fun a => headS (evLoad P h t a) P o f h k)
    (fun _ _ _ => genS)
    (fun _ => genS) (fun _ => genS) (fun _ => genS)
    (fun op t x y _ P o f h k => opK x f fun a => opK y f fun b => binK op a b (fun v => k (.v v)) (stillV (valOf (evBin0 P f h op t x y)) P o f h k))
    (fun _ _ _ => genS)
    (fun s d x P o f h k => opK x f fun x => stillV (evConv P h s d x) P o f h k)
    (fun _ _ => genS) (fun _ _ => genS) (fun _ _ _ => genS) (fun _ _ => genS) (fun _ _ => genS) (fun _ _ _ => genS)
    (fun _ _ _ _ _ => genS)
    (fun t x i P o f h k => opK x f fun x => fieldAddrK P t x i k (plainS P o f h k))
    (fun t x i P o f h k => opK x f fun x => headS (evField P t x i) P o f h k)
    (fun t x i P o f h k => opK x f fun x => opK i f fun i => indexAddrK P t x i k (plainS P o f h k))
    (fun _ _ _ => genS) (fun _ _ _ _ => genS) (fun _ _ _ _ => genS) (fun _ _ _ => genS) (fun _ _ _ _ => genS) (fun _ _ => genS) (fun _ _ => genS) (fun _ => genS) (fun _ _ _ _ => genS)
    (fun x i P o f h k => opK x f fun x => headS (evExtract x i) P o f h k)
    (fun _ => genS)
    (fun _ => genS) (fun _ => genS) (fun _ => genS) (fun _ _ => genS) (fun _ _ _ => genS) (fun _ _ => genS) op
noncomputable def outS (o : Oper) (k : AV → Ans) : Option AV → Ans
  | some v => k v
  | none => .at o
theorem plainS_eq (P : Program) (o : Oper) (f : Fr) (h : Hp) (k : AV → Ans) : plainS P o f h k = outS o k (plainV P f h o) := by
  unfold plainS
  cases plainV P f h o with
  | some v => exact fullK_eq v k
  | none => rfl
noncomputable def orPlainS (P : Program) (f : Fr) (h : Hp) (o : Oper) (r : Option AV) : Option AV := match r with
  | some v => some v
  | none => plainV P f h o
theorem headS_eq (P : Program) (o : Oper) (r : Option AV) (f : Fr) (h : Hp) (k : AV → Ans) : headS r P o f h k = outS o k (orPlainS P f h o r) := by
  cases r with
  | some v => exact headK_eq v k
  | none => exact plainS_eq P o f h k
theorem stillV_eq (P : Program) (o : Oper) (r : Option AV) (f : Fr) (h : Hp) (k : AV → Ans) : stillV r P o f h k = outS o k (orPlainS P f h o r) := by
  cases r with
  | some v => exact fullK_eq v k
  | none => exact plainS_eq P o f h k
theorem evStill_or (P : Program) (f : Fr) (h : Hp) (o : Oper) : evStill P f h o = orPlainS P f h o (evStillS P f h o) := rfl
theorem stillRun_eq (P : Program) (o : Oper) (f : Fr) (h : Hp) (k : AV → Ans) : stillRun o.op P o f h k = outS o k (evStill P f h o) := by
  have hg : genS P o f h k = outS o k (evStill P f h o) := by
    unfold genS
    cases evStill P f h o with
    | some v => exact fullK_eq v k
    | none => rfl
  have hp : plainS P o f h k = outS o k (orPlainS P f h o none) := plainS_eq P o f h k
  cases ho : o.op with
  | move x =>
    show opK x f _ = _
    rw [opK_eq, evStill_or]
    simp only [evStillS, ho]
    rfl
  | assign x =>
    show opK x f _ = _
    rw [opK_eq, evStill_or]
    simp only [evStillS, ho]
    rfl
  | binOp op t x y yt =>
    show opK x f _ = _
    rw [opK_eq]
    show opK y f _ = _
    rw [opK_eq, binK_eq, evStill_or]
    simp only [evStillS, ho, evBin]
    cases evI2 op (evA f x) (evA f y) with
    | none => exact stillV_eq P o _ f h k
    | some v => rfl
  | load t a =>
    show opK a f _ = _
    rw [opK_eq, evStill_or]
    simp only [evStillS, ho]
    exact headS_eq P o _ f h k
  | fieldAddr t x i =>
    show opK x f _ = _
    rw [opK_eq, fieldAddrK_eq, evStill_or]
    simp only [evStillS, ho]
    cases evFieldAddr P t (evA f x) i with
    | none => exact hp
    | some v => rfl
  | field t x i =>
    show opK x f _ = _
    rw [opK_eq, evStill_or]
    simp only [evStillS, ho]
    exact headS_eq P o _ f h k
  | indexAddr t x i =>
    show opK x f _ = _
    rw [opK_eq]
    show opK i f _ = _
    rw [opK_eq, indexAddrK_eq, evStill_or]
    simp only [evStillS, ho]
    cases evIndexAddr P t (evA f x) (evA f i) with
    | none => exact hp
    | some v => rfl
  | extract x i =>
    show opK x f _ = _
    rw [opK_eq, evStill_or]
    simp only [evStillS, ho]
    exact headS_eq P o _ f h k
  | convert s d x =>
    show opK x f _ = _
    rw [opK_eq, evStill_or]
    simp only [evStillS, ho]
    exact stillV_eq P o _ f h k
  | _ => exact hg
noncomputable def guardS (t : Option Tmp) (want : Bool) : Program → Oper → SSt :=
  Option.rec (fun _ o _ _ _ => .at o)
    (fun t P o f h k => Bool.rec (.at o) (getK (pa t) f.tr fun v => boolG v (Bool.rec (k (.v undef)) (stillRun o.op P o f h k) want) (Bool.rec (stillRun o.op P o f h k) (k (.v undef)) want) (k (.v undef)) (.at o)) (Nat.blt t f.n)) t
noncomputable def stillC (P : Program) (ops : Array Oper) (o : Oper) : SSt := fun f h k => Option.rec (stillRun o.op P o f h k) (fun gw => guardS (slotOf ops gw.1) gw.2 P o f h k) o.guard
theorem stillC_eq (P : Program) (ops : Array Oper) (o : Oper) (f : Fr) (h : Hp) (k : AV → Ans) : stillC P ops o f h k = match evStillG P ops f h o with | some v => k v | none => .at o := by
  have hr : stillRun o.op P o f h k = match evStill P f h o with | some v => k v | none => .at o := by
    rw [stillRun_eq]
    cases evStill P f h o <;> rfl
  unfold stillC evStillG evWanted
  cases hg : o.guard with
  | none => exact hr
  | some gw =>
    obtain ⟨g, want⟩ := gw
    dsimp only
    show guardS ((ops[g]?).bind (·.dst)) want P o f h k = _
    cases hs : (ops[g]?).bind (·.dst) with
    | none => rfl
    | some t =>
      show (Bool.rec (.at o) (getK (pa t) f.tr fun v => boolG v (Bool.rec (k (.v undef)) (stillRun o.op P o f h k) want) (Bool.rec (stillRun o.op P o f h k) (k (.v undef)) want) (k (.v undef)) (.at o)) (Nat.blt t f.n) : Ans) = _
      dsimp only
      cases Nat.blt t f.n with
      | false => rfl
      | true =>
        dsimp only
        rw [slotK_eq, boolG_eq, hr]
        cases f.get t with
        | v x =>
          cases x with
          | bool b => cases b <;> cases want <;> rfl
          | _ => rfl
        | _ => rfl
noncomputable def imp (p : Pend) : Bool := match isPure p.2.1 with
  | true => false
  | false => true
noncomputable def pendAdd (p : Pend) (pend : List Pend) : List Pend := match isPure p.2.1 with
  | true => pend
  | false => p :: pend
theorem pendAdd_eq (p : Pend) (pend : List Pend) : pendAdd p (pend.filter imp) = (p :: pend).filter imp := by
  unfold pendAdd
  cases hp : isPure p.2.1 with
  | true => simp [imp, hp]
  | false => simp [imp, hp]
noncomputable def chkK (r : Option (List Pend)) (k : List Pend → Ans) (bad : Ans) : Ans := Option.rec bad k r
theorem check_filter (P : Program) (ops : Array Oper) (A : Nat) (h : Hp) : ∀ l : List Pend, checkPend P ops A h (l.filter imp) = (checkPend P ops A h l).map fun l => l.filter imp
  | [] => rfl
  | (j, o, f, v) :: r => by
    have ih := check_filter P ops A h r
    cases hp : isPure o with
    | true =>
      have e1 : ((j, o, f, v) :: r).filter imp = r.filter imp := by simp [imp, hp]
      rw [e1, ih]
      simp only [checkPend, hp]
      cases A.testBit j with
      | true => rfl
      | false =>
        cases checkPend P ops A h r with
        | none => rfl
        | some l => simp [imp, hp]
    | false =>
      have e1 : ((j, o, f, v) :: r).filter imp = (j, o, f, v) :: r.filter imp := by simp [imp, hp]
      rw [e1]
      simp only [checkPend, hp]
      cases A.testBit j with
      | true => exact ih
      | false =>
        dsimp only
        cases evStillG P ops f h o with
        | none => rfl
        | some v' =>
          dsimp only
          cases avEq 30 v' v with
          | false => rfl
          | true =>
            dsimp only
            rw [ih]
            cases checkPend P ops A h r with
            | none => rfl
            | some l => simp [imp, hp]
noncomputable def andA (a b : Ans) : Ans := Ans.rec b (fun s => .no s) (fun o => .at o) (fun f h => .got f h) a
noncomputable def adoptF (P : Program) (g : Grp) (f : Fr) (h : Hp) : Option (Fr × Hp) := match gRun P g gStart with
  | some (fe, some b) => (adSlots fe h.nx g f).map fun f' => (f', h.new b)
  | _ => none
noncomputable def adoK (P : Program) (ops : Array Oper) (bad : Ans) (l : List Grp) : Fr → Hp → List Pend → (Fr → Hp → List Pend → Ans) → Ans :=
  List.rec (fun f h p K => K f h p) (fun g _ ih f h p K => Option.rec bad (fun fh => Prod.rec (fun f' h' => heapK h' fun h' => chkK (checkPend P ops 0 h' p) (fun p' => ih f' h' p' K) bad) fh) (adoptF P g f h)) l
theorem adoptG_eq (P : Program) (ops : Array Oper) (g : Grp) (d : Nat) (f : Fr) (h : Hp) (pend : List Pend) : adoptG P ops g d f h pend = match adoptF P g f h with
    | some (f', h') => match checkPend P ops 0 h' pend with
      | some p' => some (doneAdd g d, f', h', p')
      | none => none
    | none => none := by
  unfold adoptG adoptF
  cases gRun P g gStart with
  | none => rfl
  | some s =>
    obtain ⟨fe, b⟩ := s
    cases b with
    | none => rfl
    | some b =>
      dsimp only
      cases adSlots fe h.nx g f with
      | none => rfl
      | some f' =>
        dsimp only [Option.map_some]
        cases checkPend P ops 0 (h.new b) pend <;> rfl
theorem adoptSel_filter (P : Program) (ops : Array Oper) (sel : Grp → Bool) : ∀ (gs : List Grp) (d : Nat) (f : Fr) (h : Hp) (pend : List Pend), adoptSel P ops sel gs d f h pend = adoptSel P ops (fun _ => true) (gs.filter sel) d f h pend
  | [], d, f, h, pend => rfl
  | g :: r, d, f, h, pend => by
    cases hs : sel g with
    | false =>
      rw [List.filter_cons_of_neg (by rw [hs]; exact Bool.false_ne_true)]
      simp only [adoptSel, hs]
      exact adoptSel_filter P ops sel r d f h pend
    | true =>
      rw [List.filter_cons_of_pos hs]
      simp only [adoptSel, hs]
      cases adoptG P ops g d f h pend with
      | none => rfl
      | some x =>
        obtain ⟨d', f', h', p'⟩ := x
        exact adoptSel_filter P ops sel r d' f' h' p'
theorem adoK_eq (P : Program) (ops : Array Oper) (bad : Ans) : ∀ (l : List Grp) (d : Nat) (f : Fr) (h : Hp) (pend : List Pend) (K : Fr → Hp → List Pend → Ans),
    adoK P ops bad l f h (pend.filter imp) K = match adoptSel P ops (fun _ => true) l d f h pend with
      | some (_, f', h', p') => K f' h' (p'.filter imp)
      | none => bad
  | [], d, f, h, pend, K => rfl
  | g :: r, d, f, h, pend, K => by
    simp only [adoptSel]
    rw [adoptG_eq]
    show (Option.rec bad (fun fh => Prod.rec (fun f' h' => heapK h' fun h' => chkK (checkPend P ops 0 h' (pend.filter imp)) (fun p' => adoK P ops bad r f' h' p' K) bad) fh) (adoptF P g f h) : Ans) = _
    cases adoptF P g f h with
    | none => rfl
    | some fh =>
      obtain ⟨f', h'⟩ := fh
      dsimp only
      rw [heapK_eq, check_filter]
      cases checkPend P ops 0 h' pend with
      | none => rfl
      | some p' => exact adoK_eq P ops bad r (doneAdd g d) f' h' p' K
theorem adoptSel_done (P : Program) (ops : Array Oper) : ∀ (l : List Grp) (d : Nat) (f : Fr) (h : Hp) (pend : List Pend) (d' : Nat) (f' : Fr) (h' : Hp) (p' : List Pend), adoptSel P ops (fun _ => true) l d f h pend = some (d', f', h', p') → d' = dAdd l d
  | [], d, f, h, pend, d', f', h', p', e => by
    simp only [adoptSel, Option.some.injEq, Prod.mk.injEq] at e
    exact e.1.symm
  | g :: r, d, f, h, pend, d', f', h', p', e => by
    simp only [adoptSel] at e
    split at e
    case h_2 => cases e
    rename_i d1 f1 h1 p1 had
    rw [adoptG_eq] at had
    split at had
    case h_2 => cases had
    split at had
    case h_2 => cases had
    simp only [Option.some.injEq, Prod.mk.injEq] at had
    rw [adoptSel_done P ops r d1 f1 h1 p1 d' f' h' p' e, ← had.1]
    rfl
noncomputable def schC (s : Sch) : Program → Array Oper → Rt → (Fr → Hp → Ans) → Fr → Hp → List Pend → Ans :=
  Sch.rec (motive := fun _ => Program → Array Oper → Rt → (Fr → Hp → Ans) → Fr → Hp → List Pend → Ans) (fun _ _ _ k f h _ => k f h)
    (fun _ _ _ _ _ _ _ => .no "fuel of a drawn region")
    (fun _ _ _ _ _ _ _ => .yes)
    (fun i o _ ih P ops rt k f h pend => stillC P ops o f h fun v => putC o.dst v f (fun f' => ih P ops rt k f' h (pendAdd (i, o, f, v) pend)) (.at o))
    (fun _ o A _ ih P ops rt k f h pend => opC P ops o rt (fun f' h' => chkK (checkPend P ops A h' pend) (ih P ops rt k f' h') (.at o)) f h)
    (fun _ _ iha ihb P ops rt k f h pend => andA (iha P ops rt k f h pend) (ihb P ops rt k f h pend))
    (fun l bad _ ih P ops rt k f h pend => adoK P ops bad l f h pend (fun f' h' p' => ih P ops rt k f' h' p')) s
theorem joinS_eq {P : Program} {ops : Array Oper} {rt : Rt} {k : Fr → Hp → Ans} {f : Fr} {h : Hp} {pend : List Pend} {α : Type} (mk : α → Sch) (g : α → Ans) : ∀ l : List α, (∀ x ∈ l, schC (mk x) P ops rt k f h pend = g x) → schC (joinS (l.map mk)) P ops rt k f h pend = allA l g
  | [], _ => rfl
  | [a], H => by
    show schC (mk a) P ops rt k f h pend = _
    rw [H a List.mem_cons_self]
    simp only [allA]
    cases g a <;> rfl
  | a :: b :: r, H => by
    show andA (schC (mk a) P ops rt k f h pend) (schC (joinS ((b :: r).map mk)) P ops rt k f h pend) = _
    rw [H a List.mem_cons_self, joinS_eq mk g (b :: r) fun x hx => H x (List.mem_cons_of_mem _ hx)]
    show _ = match g a with | .yes => allA (b :: r) g | .no s => .no s | .at o => .at o | .got f h => .got f h
    cases g a <;> rfl
theorem schC_eq (P : Program) (ops : Array Oper) (gs : List Grp) : ∀ (n done : Nat) (f : Fr) (h : Hp) (pend : List Pend) (k : Fr → Hp → Ans) (rt : Rt),
    schC (mkSch ops (tabOf ops) gs ops.size n done) P ops rt k f h (pend.filter imp) = evDrawL P rt.cf rt.rf ops (tabOf ops) gs n done f h pend k
  | 0, done, f, h, pend, k, rt => rfl
  | n + 1, done, f, h, pend, k, rt => by
    have ih := schC_eq P ops gs n
    simp only [mkSch, evDrawL]
    cases nextStill done (tabOf ops) 0 with
    | some io =>
      obtain ⟨i, o⟩ := io
      show stillC P ops o f h (fun v => putC o.dst v f (fun f' => schC (mkSch ops (tabOf ops) gs ops.size n (done ||| 2 ^ i)) P ops rt k f' h (pendAdd (i, o, f, v) (pend.filter imp))) (.at o)) = _
      rw [stillC_eq]
      dsimp only
      cases evStillG P ops f h o with
      | none => rfl
      | some v =>
        dsimp only
        rw [putC_eq]
        cases f.put o.dst v with
        | none => rfl
        | some f' =>
          dsimp only
          rw [pendAdd_eq]
          exact ih _ f' h _ k rt
    | none =>
      dsimp only
      cases Nat.beq ((done ||| lateMask gs) + 1) (2 ^ ops.size) with
      | true =>
        show adoK P ops (.no "groups at the end") (gs.filter (undone done)) f h (pend.filter imp) (fun f' h' _ => k f' h') = _
        rw [adoK_eq P ops _ _ done, ← adoptSel_filter]
        cases adoptSel P ops (undone done) gs done f h pend <;> rfl
      | false =>
        dsimp only
        refine joinS_eq _ _ _ fun x _ => ?_
        obtain ⟨i, o, A⟩ := x
        show adoK P ops (.at o) (gs.filter (needs done (maskOf ops o).2.2)) f h (pend.filter imp) (fun f1 h1 p1 => opC P ops o rt (fun f' h' => chkK (checkPend P ops A h' p1) (fun p => schC (mkSch ops (tabOf ops) gs ops.size n (dAdd (gs.filter (needs done (maskOf ops o).2.2)) done ||| 2 ^ i)) P ops rt k f' h' p) (.at o)) f1 h1) = _
        rw [adoK_eq P ops _ _ done, adoptSel_filter P ops (needs done (maskOf ops o).2.2)]
        dsimp only
        cases had : adoptSel P ops (fun _ => true) (gs.filter (needs done (maskOf ops o).2.2)) done f h pend with
        | none => rfl
        | some x =>
          obtain ⟨d1, f1, h1, p1⟩ := x
          obtain rfl := adoptSel_done P ops _ _ _ _ _ _ _ _ _ had
          dsimp only
          have hk : (fun f' h' => chkK (checkPend P ops A h' (p1.filter imp)) (fun p => schC (mkSch ops (tabOf ops) gs ops.size n (dAdd (gs.filter (needs done (maskOf ops o).2.2)) done ||| 2 ^ i)) P ops rt k f' h' p) (.at o)) =
              fun f' h' => match checkPend P ops A h' p1 with | some pend' => evDrawL P rt.cf rt.rf ops (tabOf ops) gs n (dAdd (gs.filter (needs done (maskOf ops o).2.2)) done ||| 2 ^ i) f' h' pend' k | none => .at o := by
            funext f' h'
            rw [check_filter]
            cases checkPend P ops A h' p1 with
            | none => rfl
            | some l => exact ih _ f' h' l k rt
          rw [hk, opC_eq]
          unfold stepR
          dsimp only
          cases evWanted ops f1 o with
          | none => rfl
          | some b =>
            cases b with
            | false => rfl
            | true => cases evOp P f1 h1 o <;> rfl
noncomputable def drawOk (P : Program) (ops : Array Oper) : Bool := match P.follows .mixedOrders with
  | true => match drawGo 0 (ops.toList.map (maskOf ops)) with
    | true => ops.toList.all (fun o => !Oper.isSelect o)
    | false => false
  | false => false
noncomputable def opsD (P : Program) (ops : Array Oper) : RSt := fun rt k f h => match lastDefer ops.toList with
  | none => opsC P ops ops.toList rt k f h
  | some (l, o, c) => match rt.ro with
    | none => opsC P ops l rt (fun f h => match evDefer f o c with
      | some f' => k f' h
      | none => .at o) f h
    | some _ => .no "a deferred call in a round"
/-- One order of a schedule; whether it has more than one. -/
noncomputable def leftS (s : Sch) : Sch := Sch.rec .fin .out .nul (fun i o _ ih => .still i o ih) (fun i o A _ ih => .act i o A ih) (fun _ _ ih _ => ih) (fun l bad _ ih => .ado l bad ih) s
noncomputable def hasTwo (s : Sch) : Bool := Sch.rec false false false (fun _ _ _ ih => ih) (fun _ _ _ _ ih => ih) (fun _ _ _ _ => true) (fun _ _ _ ih => ih) s
noncomputable def nameOf (v : AV) : Option Nat := match v with
  | .ptr i _ => some i
  | .slc i _ _ _ _ => some i
  | .mp i => some i
  | .ifc _ (.ptr i _) => some i
  | .ifc _ (.slc i _ _ _ _) => some i
  | .ifc _ (.mp i) => some i
  | _ => none
/-- Which names pair: a hint, looked at slot by slot. -/
noncomputable def hintL (N : Nat) (f f' : Fr) : List Oper → List (Nat × Nat)
  | [] => []
  | o :: r => match o.dst with
    | some t => match nameOf (f.get t) with
      | some i => match nameOf (f'.get t) with
        | some j => match Nat.ble N j with
          | true => match assocN (hintL N f f' r) j with
            | some _ => hintL N f f' r
            | none => (i, j) :: hintL N f f' r
          | false => hintL N f f' r
        | none => hintL N f f' r
      | none => hintL N f f' r
    | none => hintL N f f' r
noncomputable def simL (N : Nat) (L : List (Nat × Nat)) (fr : Fr) (hr : Hp) (f : Fr) (h : Hp) : Ans := match hpSim N L h hr with
  | true => match frSim N L f fr with
    | true => .yes
    | false => .no "join: frames differ"
  | false => .no "join: heaps differ"
/-- Names that no slot tells are paired in their order. -/
noncomputable def pairUp (N nx : Nat) (L : List (Nat × Nat)) : List (Nat × Nat) :=
  L ++ (((List.range (Nat.sub nx N)).map (Nat.add N)).filter fun i => notIn i L).zip (((List.range (Nat.sub nx N)).map (Nat.add N)).filter fun j => (assocN L j).isNone)
noncomputable def simA (N : Nat) (ops : Array Oper) (fr : Fr) (hr : Hp) (f : Fr) (h : Hp) : Ans := simL N (pairUp N h.nx (hintL N f fr ops.toList)) fr hr f h
noncomputable def regJ (s : Sch) (P : Program) (ops : Array Oper) : RSt := fun rt k f h =>
  Bool.rec (schC s P ops rt k f h [])
    (Ans.rec (schC s P ops rt k f h []) (fun _ => schC s P ops rt k f h []) (fun _ => schC s P ops rt k f h [])
      (fun fr hr => Ans.rec (k fr hr) (fun _ => schC s P ops rt k f h []) (fun _ => schC s P ops rt k f h []) (fun _ _ => schC s P ops rt k f h []) (schC s P ops rt (simA h.nx ops fr hr) f h []))
      (schC (leftS s) P ops rt (fun f h => .got f h) f h [])) (hasTwo s)
theorem regJ_yes {s : Sch} {P : Program} {ops : Array Oper} {rt : Rt} {k : Fr → Hp → Ans} {f : Fr} {h : Hp} (hk : regJ s P ops rt k f h = .yes) : schC s P ops rt k f h [] = .yes ∨ ∃ fr hr, k fr hr = .yes ∧ schC s P ops rt (simA h.nx ops fr hr) f h [] = .yes := by
  unfold regJ at hk
  revert hk
  cases hasTwo s with
  | false => exact fun hk => .inl hk
  | true =>
    cases schC (leftS s) P ops rt (fun f h => .got f h) f h [] with
    | got fr hr =>
      dsimp only
      cases hs : schC s P ops rt (simA h.nx ops fr hr) f h [] with
      | yes => exact fun hk => .inr ⟨fr, hr, hk, hs⟩
      | _ => exact fun hk => .inl hk
    | _ => exact fun hk => .inl hk
noncomputable def regC (P : Program) (ops : Array Oper) (draw : Bool) : RSt := fun rt k f h =>
  Bool.rec (opsD P ops rt k f h) (Bool.rec (.no "a drawn region out of form") (Bool.rec (.no "slots of groups") (regJ (mkSch ops (tabOf ops) (lates P ops) ops.size (ops.size + 1) 0) P ops rt k f h) (Nat.ble (topSlot (lates P ops)) f.n)) (drawOk P ops)) draw
noncomputable def k3 (kn : Fr → Hp → Ans) (kx : Nat → Fr → Hp → Ans) (kr : Fr → Hp → Ans) : Kf := fun e => match e with
  | .normal => kn
  | .exit i => kx i
  | .ret => kr
abbrev CSt := Rt → (Fr → Hp → Ans) → (Nat → Fr → Hp → Ans) → (Fr → Hp → Ans) → Fr → Hp → Ans
noncomputable def loopC (body : (Fr → Hp → Ans) → Fr → Hp → Ans) (n : Nat) : Fr → Hp → Ans := Nat.rec (fun _ _ => .no "fuel") (fun _ ih => body ih) n
noncomputable def roC (ro : Option Nat) (a : Ans) : Ans := match ro with
  | none => a
  | some _ => .no "a scope in a round"
noncomputable def blockK (id : Nat) (kn : Fr → Hp → Ans) (kx : Nat → Fr → Hp → Ans) : Nat → Fr → Hp → Ans := fun j f h => Bool.rec (kx j f h) (kn f h) (Nat.beq j id)
noncomputable def compR (c : Code) : Program → CSt :=
  Code.rec (motive := fun _ => Program → CSt)
    (fun _ _ kn _ _ => kn)
    (fun _ ops draw P rt kn _ _ => regC P ops draw rt kn)
    (fun _ _ iha ihb P rt kn kx kr => iha P rt (ihb P rt kn kx kr) kx kr)
    (fun x _ _ iha ihb P rt kn kx kr f h => opK x f fun v => boolC v (iha P rt kn kx kr f h) (ihb P rt kn kx kr f h) (.no "condition"))
    (fun id _ ih P rt kn kx kr => ih P rt kn (blockK id kn kx) kr)
    (fun _ ih P rt _ kx kr => loopC (fun again => ih P rt again kx kr) rt.fuel)
    (fun g ps cz bd _ _ P rt kn kx kr f h => opK g f fun g => evRange2 P rt.cf rt.ro g ps cz bd f h (k3 kn kx kr))
    (fun id _ _ _ kx _ => kx id)
    (fun _ ih P rt kn kx kr f h => roC rt.ro (ih P rt kn kx kr f h))
    (fun _ _ _ kn _ _ => kn)
    (fun _ _ _ _ _ _ _ _ => .no "goto")
    (fun _ _ _ _ kr => kr)
    (fun _ _ _ _ _ _ _ _ => .no "refused") c
noncomputable abbrev compC (P : Program) (c : Code) : CSt := compR c P
theorem rep_undef (N t : Nat) : (Array.replicate N undef).getD t undef = undef := by
  by_cases ht : t < N <;> simp [ht]
theorem evDrawL_any {P : Program} {base : Kp} {w0 : World} {cf : Cf} {rf : RfF} (C : ∀ base w0, CfOk P base w0 cf) (D : ∀ base w0, RfOk P base w0 rf) {rl : Option Nat} {nn : Nat} {ops : Array Oper} (S : Sound ops) {gs : List Grp} (LO : LateOk P ops gs) {k : Fr → Hp → Ans} {Q : Exit → Act → World → Prop} {ρ : Env} {f : Fr} {h : Hp} {a : Act} {w : World} {n : Nat}
    (HF : ∀ g ∈ gs, ∀ (p i : Nat) (o : Oper) (t : Tmp), g[p]? = some (i, o) → o.dst = some t → t < f.n) (hk : evDrawL P cf rf ops (tabOf ops) gs n 0 f h [] k = .yes) (E : Emb ρ base w0 h w) (F : FrR ρ f a) (hd : DfR ρ f.ds a.defers)
    (K : ∀ f h ρ' a w, k f h = .yes → Env.le ρ ρ' → Emb ρ' base w0 h w → FrR ρ' f a → DfR ρ' f.ds a.defers → Q .normal a w) :
    wpAnyIn (fen rl) nn P .any ops Q ops.size (Array.replicate ops.size false) a { w with drawn := w.drawn + 1 } := by
  have hno : ∀ i, ¬ Lst (Array.replicate ops.size false) i := fun i hh => by rw [Lst, getD_replicate_false] at hh; cases hh
  have h0 : ∀ i, (0 : Nat).testBit i = true → False := fun i hh => by simp at hh
  refine evDrawL_ok C D S LO HF K n 0 f h [] (fun _ => .v undef) _ (Array.replicate ops.size false) a a _ ρ (fun _ => False) (fun _ => 0) (fun _ => none) ops.size hk (f0 := f) ?_ ?_ (Env.le_refl ρ) (fun i o ho t ht hb => (h0 i hb).elim) fun l hl hm => nodup_room _ l hl fun i hi => (hm i hi).1
  · exact ⟨by simp, fun i hi => (hno i hi).elim, fun i k hi => (h0 i hi).elim, fun i k hi => (hno i hi).elim, fun i hi => (h0 i hi).elim, fun i hi => (h0 i hi).elim, fun i o fi vi hm => (by cases hm), rfl, fun t => ⟨fun i o hi => (h0 i hi).elim, fun _ => rfl⟩, ⟨a, F⟩, F.1, hd, fun t => ⟨fun i o hi => (hno i hi).elim, fun _ => F.2 t⟩, E.drew _ rfl rfl rfl rfl⟩
  · refine ⟨by simp, fun i hi => hi, fun i hi => (hno i hi).elim, fun i k hi => (hno i hi).elim, rfl, rfl, fun t _ => rfl, fun q g hq hT => ⟨fun p i o hp => ⟨fun hi => (hno i hi).elim, fun hp => by omega⟩, Nat.zero_le _, ⟨.nil, 1000000, []⟩, none, { tmps := Array.replicate 1000000 undef, defers := [] }, by rw [List.take_zero]; rfl, .inl ⟨rfl, rfl⟩, ⟨Array.size_replicate, fun t => ?_⟩, fun p i o t hp => by omega⟩, fun q g l _ _ hl => (by cases hl), fun q q' g g' l l' _ _ _ _ _ hl => (by cases hl), fun q g hq => ⟨fun _ p i o hp => Nat.zero_testBit _, fun hT => hT.elim⟩⟩
    show AV.real _ (((Tr.nil : Tr AV).get t).getD (.tup [])) = _
    rw [Tr.get_nil]
    exact congrArg some (rep_undef 1000000 t).symm
theorem regC_ok {P : Program} {base : Kp} {w0 : World} {id : Nat} {ops : Array Oper} {draw : Bool} {rt : Rt} (C : ∀ base w0, CfOk P base w0 rt.cf) (D : ∀ base w0, RfOk P base w0 rt.rf) {k : Fr → Hp → Ans} {f : Fr} {h : Hp} {ρ : Env} {a : Act} {w : World} {Q : Exit → Act → World → Prop} {rl : Option Nat} {nn : Nat}
    (hk : regC P ops draw rt k f h = .yes) (hro : RoR ρ rt.ro rl) (E : Emb ρ base w0 h w) (F : FrR ρ f a) (hd : DfR ρ f.ds a.defers)
    (K : ∀ f h ρ' a w, k f h = .yes → Env.le ρ ρ' → Emb ρ' base w0 h w → FrR ρ' f a → DfR ρ' f.ds a.defers → Q .normal a w) : (Code.region id ops draw).wpIn (fen rl) nn P Q a w := by
  cases draw with
  | false =>
    have hk : opsD P ops rt k f h = .yes := hk
    unfold opsD at hk
    split at hk
    · rw [opsC_eq] at hk
      exact wpIn_region_list (evOps_ok (C _ _) (D _ _) ops.toList f h ρ a w hk E F hd K)
    · rename_i l o c hl
      split at hk
      case h_2 => cases hk
      rename_i hr0
      rw [hr0] at hro
      have hro : rl = none := hro
      subst hro
      rw [opsC_eq] at hk
      obtain ⟨h1, h2, h3⟩ := lastDefer_some hl
      refine wpIn_region_list ?_
      rw [h1]
      refine evOps_app (C _ _) (D _ _) l f h ρ a w hk E F hd fun f1 h1' ρ1 a1 w1 q1 q2 q3 q4 q5 => ?_
      split at q1
      case h_2 => cases q1
      rename_i f' hf'
      exact evDefer_ok hf' h2 h3 q3 q4 q5 fun a' F' D' => K f' h1' ρ1 a' w1 q1 q2 q3 F' D'
  | true =>
    have hk : (Bool.rec (.no "a drawn region out of form") (Bool.rec (.no "slots of groups") (regJ (mkSch ops (tabOf ops) (lates P ops) ops.size (ops.size + 1) 0) P ops rt k f h) (Nat.ble (topSlot (lates P ops)) f.n)) (drawOk P ops) : Ans) = .yes := hk
    cases hd0 : drawOk P ops with
    | false => rw [hd0] at hk; cases hk
    | true =>
    rw [hd0] at hk
    unfold drawOk at hd0
    split at hd0
    case h_2 => cases hd0
    rename_i hm
    split at hd0
    case h_2 => cases hd0
    rename_i hg
    have hs := hd0
    cases hfit : Nat.ble (topSlot (lates P ops)) f.n with
    | false => rw [hfit] at hk; cases hk
    | true =>
    rw [hfit] at hk
    have go : ∀ k', schC (mkSch ops (tabOf ops) (lates P ops) ops.size (ops.size + 1) 0) P ops rt k' f h [] = .yes → (∀ f h ρ' a w, k' f h = .yes → Env.le ρ ρ' → Emb ρ' base w0 h w → FrR ρ' f a → DfR ρ' f.ds a.defers → Q .normal a w) → (Code.region id ops true).wpIn (fen rl) nn P Q a w := fun k' hk K => by
      have hk : schC (mkSch ops (tabOf ops) (lates P ops) ops.size (ops.size + 1) 0) P ops rt k' f h (([] : List Pend).filter imp) = .yes := hk
      rw [schC_eq] at hk
      exact wpIn_region_any hm (evDrawL_any C D (sound_of hg hs) (lates_ok P ops) (topSlot_spec _ (Nat.le_of_ble_eq_true hfit)) hk E F hd K)
    rcases regJ_yes hk with hk | ⟨fr, hr, hkr, hk⟩
    · exact go k hk K
    · refine go _ hk fun f' h' ρ' a w q1 q2 q3 q4 q5 => ?_
      unfold simA at q1
      generalize pairUp h.nx h'.nx (hintL h.nx f' fr ops.toList) = L at q1
      unfold simL at q1
      split at q1
      case h_2 => cases q1
      rename_i s1
      split at q1
      case h_2 => cases q1
      rename_i s2
      obtain ⟨F', D'⟩ := frSim_ok s2 q4 q5
      exact K fr hr _ a w hkr (reN_le (fun id l hl => (E.fresh id l hl).1) q2) (q3.join s1) F' D'
theorem compC_ok {P : Program} {base : Kp} {w0 : World} : ∀ (c : Code) (rt : Rt), (∀ base w0, CfOk P base w0 rt.cf) → (∀ base w0, RfOk P base w0 rt.rf) → ∀ (kn : Fr → Hp → Ans) (kx : Nat → Fr → Hp → Ans) (kr : Fr → Hp → Ans) (f : Fr) (h : Hp) (ρ : Env) (a : Act) (w : World) (Q : Exit → Act → World → Prop) (rl : Option Nat) (nn : Nat),
    compC P c rt kn kx kr f h = .yes → RoR ρ rt.ro rl → Emb ρ base w0 h w → FrR ρ f a → DfR ρ f.ds a.defers → Post base w0 ρ (k3 kn kx kr) Q → c.wpIn (fen rl) nn P Q a w := by
  intro c
  induction c with
  | skip => exact fun rt C D kn kx kr f h ρ a w Q rl nn hk hro E F hd K => wpIn_skip (K .normal f h ρ a w hk (Env.le_refl ρ) E F hd)
  | label l => exact fun rt C D kn kx kr f h ρ a w Q rl nn hk hro E F hd K => wpIn_label (K .normal f h ρ a w hk (Env.le_refl ρ) E F hd)
  | exit id => exact fun rt C D kn kx kr f h ρ a w Q rl nn hk hro E F hd K => wpIn_exit (K (.exit id) f h ρ a w hk (Env.le_refl ρ) E F hd)
  | ret => exact fun rt C D kn kx kr f h ρ a w Q rl nn hk hro E F hd K => wpIn_ret (K .ret f h ρ a w hk (Env.le_refl ρ) E F hd)
  | goto l => exact fun rt C D kn kx kr f h ρ a w Q rl nn hk hro E F hd K => by cases hk
  | refuse s => exact fun rt C D kn kx kr f h ρ a w Q rl nn hk hro E F hd K => by cases hk
  | region id ops draw => exact fun rt C D kn kx kr f h ρ a w Q rl nn hk hro E F hd K => regC_ok C D hk hro E F hd fun f h ρ' a w q1 q2 q3 q4 q5 => K .normal f h ρ' a w q1 q2 q3 q4 q5
  | rangeFunc g ps cz bd _ _ =>
    intro rt C D kn kx kr f h ρ a w Q rl nn hk hro E F hd K
    have hk : opK g f (fun g => evRange2 P rt.cf rt.ro g ps cz bd f h (k3 kn kx kr)) = .yes := hk
    rw [opK_eq] at hk
    exact evRange2_ok (C _ _) hk hro E F hd K
  | seq x y ihx ihy =>
    intro rt C D kn kx kr f h ρ a w Q rl nn hk hro E F hd K
    refine wpIn_seq (ihx rt C D _ kx kr f h ρ a w _ rl nn hk hro E F hd ?_)
    intro e f' h' ρ' a' w' he hle E' F' hd'
    cases e with
    | normal => exact ihy rt C D kn kx kr f' h' ρ' a' w' Q rl nn he (hro.mono hle) E' F' hd' (K.mono hle)
    | exit j => exact K (.exit j) f' h' ρ' a' w' he hle E' F' hd'
    | ret => exact K .ret f' h' ρ' a' w' he hle E' F' hd'
  | cond x y z ihy ihz =>
    intro rt C D kn kx kr f h ρ a w Q rl nn hk hro E F hd K
    have hx := evA_real F x
    have hk : opK x f (fun v => boolC v (compC P y rt kn kx kr f h) (compC P z rt kn kx kr f h) (.no "condition")) = .yes := hk
    rw [opK_eq, boolC_eq] at hk
    split at hk
    · rename_i he
      rw [he] at hx
      exact wpIn_cond_true (Option.some.inj hx).symm (ihy rt C D kn kx kr f h ρ a w Q rl nn hk hro E F hd K)
    · rename_i he
      rw [he] at hx
      exact wpIn_cond_false (Option.some.inj hx).symm (ihz rt C D kn kx kr f h ρ a w Q rl nn hk hro E F hd K)
    · cases hk
  | block id b ih =>
    intro rt C D kn kx kr f h ρ a w Q rl nn hk hro E F hd K
    refine wpIn_block (ih rt C D kn (blockK id kn kx) kr f h ρ a w _ rl nn hk hro E F hd ?_)
    intro e f' h' ρ' a' w' he hle E' F' hd'
    cases e with
    | normal => exact K .normal f' h' ρ' a' w' he hle E' F' hd'
    | ret => exact K .ret f' h' ρ' a' w' he hle E' F' hd'
    | exit j =>
      have he : (Bool.rec (kx j f' h') (kn f' h') (Nat.beq j id) : Ans) = .yes := he
      show if j = id then _ else _
      cases hj : Nat.beq j id with
      | true =>
        rw [hj] at he
        rw [if_pos (Nat.eq_of_beq_eq_true hj)]
        exact K .normal f' h' ρ' a' w' he hle E' F' hd'
      | false =>
        rw [hj] at he
        rw [if_neg (fun e => by rw [e] at hj; simp at hj)]
        exact K (.exit j) f' h' ρ' a' w' he hle E' F' hd'
  | scope b ih =>
    intro rt C D kn kx kr f h ρ a w Q rl nn hk hro E F hd K
    have hk : roC rt.ro (compC P b rt kn kx kr f h) = .yes := hk
    unfold roC at hk
    split at hk
    case h_2 => cases hk
    rename_i hro0
    rw [hro0] at hro
    have hro : rl = none := hro
    subst hro
    have hb := ih rt C D kn kx kr f h ρ a w (Exit.noGoto Q) none nn hk (by rw [hro0]; rfl) E F hd fun e f h ρ' a w q1 q2 q3 q4 q5 => by
      have := K e f h ρ' a w q1 q2 q3 q4 q5
      cases e <;> exact this
    exact wpIn_wide.2 (wp_scope_straight (wpIn_wide.1 hb))
  | loop b ih =>
    intro rt C D kn kx kr f h ρ a w Q rl nn hk hro E F hd K
    have hk : loopC (fun again => compC P b rt again kx kr) rt.fuel f h = .yes := hk
    have J0 : ∃ m, ∃ f h ρ', loopC (fun again => compC P b rt again kx kr) m f h = .yes ∧ Env.le ρ ρ' ∧ Emb ρ' base w0 h w ∧ FrR ρ' f a ∧ DfR ρ' f.ds a.defers := ⟨rt.fuel, f, h, ρ, hk, Env.le_refl ρ, E, F, hd⟩
    classical
    let J : Nat → Act → World → Prop := fun m a w => ∃ f h ρ', loopC (fun again => compC P b rt again kx kr) m f h = .yes ∧ Env.le ρ ρ' ∧ Emb ρ' base w0 h w ∧ FrR ρ' f a ∧ DfR ρ' f.ds a.defers
    let μ : Act → World → Nat := fun a w => if hh : ∃ m, J m a w then Classical.choose (least hh) else 0
    have hμ : ∀ a w (hh : ∃ m, J m a w), J (μ a w) a w ∧ ∀ m, J m a w → μ a w ≤ m := fun a w hh => by
      have : μ a w = Classical.choose (least hh) := dif_pos hh
      rw [this]
      exact Classical.choose_spec (least hh)
    refine wpIn_loop (fun a w => ∃ m, J m a w) μ J0 fun a w hJ => ?_
    obtain ⟨hj, _⟩ := hμ a w hJ
    generalize hm : μ a w = m at hj
    obtain ⟨f, h, ρ', hk', hle', E', F', hd'⟩ := hj
    cases m with
    | zero => cases hk'
    | succ m =>
      refine ih rt C D (loopC (fun again => compC P b rt again kx kr) m) kx kr f h ρ' a w _ rl nn hk' (hro.mono hle') E' F' hd' ?_
      intro e f'' h'' ρ'' a'' w'' he hle'' E'' F'' hd''
      cases e with
      | normal =>
        have hJ'' : J m a'' w'' := ⟨f'', h'', ρ'', he, Env.le_trans hle' hle'', E'', F'', hd''⟩
        have := (hμ a'' w'' ⟨m, hJ''⟩).2 m hJ''
        exact ⟨⟨m, hJ''⟩, by omega⟩
      | exit j => exact K (.exit j) f'' h'' ρ'' a'' w'' he (Env.le_trans hle' hle'') E'' F'' hd''
      | ret => exact K .ret f'' h'' ρ'' a'' w'' he (Env.le_trans hle' hle'') E'' F'' hd''
noncomputable def ecF (P : Program) (rc : List FuncId) (d : Nat) : Ecf := Nat.rec (fun _ _ _ _ _ => .no "depth") (fun _ ih ro c f h k => compC P c ⟨evEnter2 P rc ih, evRound P ih, ro, 100000⟩ (k .normal) (fun i => k (.exit i)) (k .ret) f h) d
theorem ecF_ok (P : Program) {rc : List FuncId} (hrc : Rec P rc) (base : Kp) (w0 : World) : ∀ d, EcOk P base w0 (ecF P rc d)
  | 0 => fun _ _ _ _ _ _ _ _ _ _ _ hk => by cases hk
  | d + 1 => fun ro c f h k ρ a w Q rl nn hk hro E F hd K => by
    have ih := fun base w0 => ecF_ok P hrc base w0 d
    refine compC_ok c ⟨evEnter2 P rc (ecF P rc d), evRound P (ecF P rc d), ro, 100000⟩ (fun b w => evEnter2_ok hrc (ih b w)) (fun b w => evRound_ok (ih b w)) (k .normal) (fun i => k (.exit i)) (k .ret) f h ρ a w Q rl nn hk hro E F hd ?_
    intro e
    cases e <;> exact K _
/-- A run, reckoned quickly, on arguments that name no block (variables, too). -/
theorem quick_calls_rec {P : Program} {rc : List FuncId} (hrc : Rec P rc) {g : FuncId} {d : Nat} {p : AV → Ans} (xs : List Value) (h : evEnter2 P rc (ecF P rc d) g (xs.map .v) ⟨.nil, 0⟩ (fun v _ => p v) = .yes) (w : World) {R : Value → Prop} (hp : ∀ v ρ x, p v = .yes → v.real ρ = some x → R x) :
    Calls P g xs.toArray w fun e w' => (∃ x, e = .returned x ∧ R x) ∧ Below w.heap.size w w' := by
  have hno : ∀ id, (⟨.nil, 0⟩ : Hp).get id = .gone := fun id => by
    show ((Tr.nil : Tr Blk).get id).getD .gone = _
    rw [Tr.get_nil]
    rfl
  have E : Emb (fun _ => none) ⟨w.heap.size, fun _ => False⟩ w ⟨.nil, 0⟩ w := ⟨Below.refl _ _, Nat.le_refl _, (fun b hB => hB.elim), (fun id l hl => by cases hl), (fun id hl => absurd (hno id) hl), (fun id id' l l' hl => absurd (hno id) hl)⟩
  refine (evEnter2_ok hrc (ecF_ok P hrc ⟨w.heap.size, fun _ => False⟩ w d) g (xs.map .v) ⟨.nil, 0⟩ _ _ w xs.toArray (fun x w' => R x ∧ Below w.heap.size w w') h E (reals_v _ _) fun v h' ρ' x w' q1 q2 q3 q4 => ⟨hp v ρ' x q1 q4, q3.below⟩).mono ?_
  rintro e w' ⟨x, rfl, h1, h2⟩
  exact ⟨⟨x, rfl, h1⟩, h2⟩
theorem rec_none (P : Program) : Rec P [] := fun g hg => by cases hg
/-- The same, where no function recovers. -/
theorem quick_calls {P : Program} {g : FuncId} {d : Nat} {p : AV → Ans} (xs : List Value) (h : evEnter2 P [] (ecF P [] d) g (xs.map .v) ⟨.nil, 0⟩ (fun v _ => p v) = .yes) (w : World) {R : Value → Prop} (hp : ∀ v ρ x, p v = .yes → v.real ρ = some x → R x) :
    Calls P g xs.toArray w fun e w' => (∃ x, e = .returned x ∧ R x) ∧ Below w.heap.size w w' := quick_calls_rec (rec_none P) xs h w hp
end Go.Proofs.Ytcakdjnnfonijaa
