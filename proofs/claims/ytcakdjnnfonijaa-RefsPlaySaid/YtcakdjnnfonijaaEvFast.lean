/- A reckoner of closed runs, 20: the quick form: tries by paths, values laid out before they are stored. Nothing of the program is used here. -/
import Derived.Test.YtcakdjnnfonijaaEvHi
namespace Go.Proofs.Ytcakdjnnfonijaa
open Go.RowKit

noncomputable def setP {α : Type} (p : Pa) : α → Tr α → (Tr α → Ans) → Ans :=
  Pa.rec (fun v t k => Tr.rec (k (.node .nil (some v) .nil)) (fun l _ r _ _ => k (.node l (some v) r)) t)
    (fun _ ih v t k => Tr.rec (ih v .nil fun l' => k (.node l' none .nil)) (fun l o r _ _ => ih v l fun l' => k (.node l' o r)) t)
    (fun _ ih v t k => Tr.rec (ih v .nil fun r' => k (.node .nil none r')) (fun l o r _ _ => ih v r fun r' => k (.node l o r')) t) p
theorem setP_setL {α : Type} (p : Pa) : ∀ (v : α) (t : Tr α) (K : Tr α → Ans), setP p v t K = K (setL p v t) := by
  induction p with
  | z => intro v t K; cases t <;> rfl
  | l p ih =>
    intro v t K
    cases t with
    | nil => exact ih v .nil _
    | node l o r => exact ih v l _
  | r p ih =>
    intro v t K
    cases t with
    | nil => exact ih v .nil _
    | node l o r => exact ih v r _
theorem setP_eq {α : Type} (n : Nat) (v : α) (t : Tr α) (K : Tr α → Ans) : setP (pa n) v t K = K (t.set n v) := setP_setL _ v t K
noncomputable def natK (s : Nat) (k : Nat → Ans) : Ans := Nat.rec (k 0) (fun m _ => k (Nat.succ m)) s
theorem natK_eq (s : Nat) (k : Nat → Ans) : natK s k = k s := by cases s <;> rfl
noncomputable def slotA : Option AV → AV
  | some a => a
  | none => .tup []
/-- The value of a slot, handed on. -/
noncomputable def getK (p : Pa) : Tr AV → (AV → Ans) → Ans :=
  Pa.rec (fun t k => Tr.rec (k (.tup [])) (fun _ o _ _ _ => Option.rec (k (.tup [])) k o) t) (fun _ ih t k => Tr.rec (k (.tup [])) (fun l _ _ _ _ => ih l k) t) (fun _ ih t k => Tr.rec (k (.tup [])) (fun _ _ r _ _ => ih r k) t) p
theorem getK_eq (p : Pa) : ∀ (t : Tr AV) (k : AV → Ans), getK p t k = k (slotA (getP p t)) := by
  induction p with
  | z =>
    intro t k
    cases t with
    | nil => rfl
    | node l o r => cases o <;> rfl
  | l p ih =>
    intro t k
    cases t with
    | nil => rfl
    | node l o r => exact ih l k
  | r p ih =>
    intro t k
    cases t with
    | nil => rfl
    | node l o r => exact ih r k
noncomputable def opK (x : Operand) : Fr → (AV → Ans) → Ans :=
  Operand.rec (fun t f k => getK (pa t) f.tr k) (fun v _ k => k (.v v)) (fun g _ k => k (.v (.pointer (some ⟨g, 0, none⟩)))) (fun g _ k => k (.fn (.func g) [] [])) x
theorem opK_eq (x : Operand) (f : Fr) (k : AV → Ans) : opK x f k = k (evA f x) := by
  cases x with
  | tmp t =>
    show getK (pa t) f.tr k = k (f.get t)
    rw [getK_eq]
    unfold Fr.get Tr.get
    cases getP (pa t) f.tr <;> rfl
  | const v => rfl
  | global g => rfl
  | func g => rfl
theorem slotK_eq (t : Tmp) (f : Fr) (k : AV → Ans) : getK (pa t) f.tr k = k (f.get t) := opK_eq (.tmp t) f k
/-- What kind of value: each way out is shut, so that nothing is written out again. -/
noncomputable def avR {α : Type} (v : AV) (hv : Value → α) (hptr : Nat → Nat → α) (hslc : Nat → Nat → Nat → Nat → Bool → α) (hmp : Nat → α) (hyld : Nat → α) (hfn : Fn → List AV → List AV → α) (hifc : TypeId → AV → α) (hagg : List AV → α) (hflat : Nat → Nat → α) (htup : List AV → α) : α :=
  AV.rec (motive_1 := fun _ => α) (motive_2 := fun _ => Unit) hv hptr hslc hmp hyld (fun f a b _ _ => hfn f a b) (fun t x _ => hifc t x) (fun a _ => hagg a) hflat (fun a _ => htup a) () (fun _ _ _ _ => ()) v
/-- A value is laid out: its kind alone; or its numbers, too. -/
noncomputable def headK (v : AV) : (AV → Ans) → Ans :=
  avR v (fun x k => k (.v x)) (fun a b k => k (.ptr a b)) (fun a b c d e k => k (.slc a b c d e)) (fun a k => k (.mp a)) (fun a k => k (.yld a)) (fun a b c k => k (.fn a b c)) (fun a b k => k (.ifc a b)) (fun a k => k (.agg a)) (fun a b k => natK a fun a => natK b fun b => k (.flat a b)) (fun a k => k (.tup a))
theorem headK_eq (v : AV) (k : AV → Ans) : headK v k = k v := by
  cases v with
  | flat a b =>
    show natK a (fun a => natK b fun b => k (.flat a b)) = _
    rw [natK_eq, natK_eq]
  | _ => rfl
noncomputable def fullK (v : AV) : (AV → Ans) → Ans :=
  avR v (fun x k => k (.v x)) (fun a b k => natK a fun a => natK b fun b => k (.ptr a b)) (fun a b c d e k => natK a fun a => natK b fun b => natK c fun c => natK d fun d => k (.slc a b c d e)) (fun a k => natK a fun a => k (.mp a)) (fun a k => natK a fun a => k (.yld a)) (fun a b c k => k (.fn a b c)) (fun a b k => k (.ifc a b)) (fun a k => k (.agg a)) (fun a b k => natK a fun a => natK b fun b => k (.flat a b)) (fun a k => k (.tup a))
theorem fullK_eq (v : AV) (k : AV → Ans) : fullK v k = k v := by
  cases v with
  | ptr a b =>
    show natK a (fun a => natK b fun b => k (.ptr a b)) = _
    rw [natK_eq, natK_eq]
  | flat a b =>
    show natK a (fun a => natK b fun b => k (.flat a b)) = _
    rw [natK_eq, natK_eq]
  | slc a b c d e =>
    show natK a (fun a => natK b fun b => natK c fun c => natK d fun d => k (.slc a b c d e)) = _
    rw [natK_eq, natK_eq, natK_eq, natK_eq]
  | mp a =>
    show natK a (fun a => k (.mp a)) = _
    rw [natK_eq]
  | yld a =>
    show natK a (fun a => k (.yld a)) = _
    rw [natK_eq]
  | _ => rfl
noncomputable def valR {α : Type} (x : Value) (hb : Bool → α) (hi : IntKind → Int → α) (d : α) : α :=
  Value.rec (motive_1 := fun _ => α) (motive_2 := fun _ => Unit) (motive_3 := fun _ => Unit) hb hi (fun _ _ => d) (fun _ _ _ => d) (fun _ => d) (fun _ => d) (fun _ _ _ => d) (fun _ => d) (fun _ => d) (fun _ _ _ _ _ => d) d (fun _ _ _ => d) d (fun _ _ => d) (fun _ _ => d) (fun _ _ => ()) () (fun _ _ _ _ => ()) x
noncomputable def avV (v : AV) : (Value → Ans) → Ans → Ans :=
  avR v (fun x k _ => k x) (fun _ _ _ d => d) (fun _ _ _ _ _ _ d => d) (fun _ _ d => d) (fun _ _ d => d) (fun _ _ _ _ d => d) (fun _ _ _ d => d) (fun _ _ d => d) (fun _ _ _ d => d) (fun _ _ d => d)
noncomputable def intV (x : Value) : (IntKind → Nat → Ans) → Ans → Ans :=
  valR x (fun _ _ d => d) (fun kd n k d => Int.rec (fun n => k kd n) (fun _ => d) n) (fun _ d => d)
noncomputable def boolV (x : Value) : Ans → Ans → Ans → Ans :=
  valR x (fun b a c _ => Bool.rec c a b) (fun _ _ _ _ d => d) (fun _ _ d => d)
noncomputable def boolC (v : AV) : Ans → Ans → Ans → Ans :=
  avR v boolV (fun _ _ _ _ d => d) (fun _ _ _ _ _ _ _ d => d) (fun _ _ _ d => d) (fun _ _ _ d => d) (fun _ _ _ _ _ d => d) (fun _ _ _ _ d => d) (fun _ _ _ d => d) (fun _ _ _ _ d => d) (fun _ _ _ d => d)
theorem boolC_eq (v : AV) (a b c : Ans) : boolC v a b c = match v with | .v (.bool true) => a | .v (.bool false) => b | _ => c := by
  cases v with
  | v x =>
    cases x with
    | bool b => cases b <;> rfl
    | _ => rfl
  | _ => rfl
noncomputable def valG {α : Type} (x : Value) (hb : Bool → α) (ht : α) (d : α) : α :=
  Value.rec (motive_1 := fun _ => α) (motive_2 := fun _ => Unit) (motive_3 := fun _ => Unit) hb (fun _ _ => d) (fun _ _ => d) (fun _ _ _ => d) (fun _ => d) (fun _ => d) (fun _ _ _ => d) (fun _ => d) (fun _ => d) (fun _ _ _ _ _ => d) d (fun _ _ _ => d) d (fun _ _ => d) (fun _ _ => ht) (fun _ _ => ()) () (fun _ _ _ _ => ()) x
/-- A guard's value: yes, no, none (it was not asked for). -/
noncomputable def boolG (v : AV) : Ans → Ans → Ans → Ans → Ans :=
  avR v (fun x => valG x (fun b a c _ _ => Bool.rec c a b) (fun _ _ s _ => s) (fun _ _ _ d => d)) (fun _ _ _ _ _ d => d) (fun _ _ _ _ _ _ _ _ d => d) (fun _ _ _ _ d => d) (fun _ _ _ _ d => d) (fun _ _ _ _ _ _ d => d) (fun _ _ _ _ _ d => d) (fun _ _ _ _ d => d) (fun _ _ _ _ _ d => d) (fun _ _ _ s _ => s)
theorem boolG_eq (v : AV) (a b s c : Ans) : boolG v a b s c = match v with | .v (.bool true) => a | .v (.bool false) => b | .v (.tuple _) => s | .tup _ => s | _ => c := by
  cases v with
  | v x =>
    cases x with
    | bool b => cases b <;> rfl
    | _ => rfl
  | _ => rfl
noncomputable def topF (k : IntKind) : Nat := IntKind.rec 128 32768 2147483648 9223372036854775808 256 65536 4294967296 18446744073709551616 k
theorem topF_eq (k : IntKind) : topF k = topK k := by cases k <;> rfl
noncomputable def bitsF (k : IntKind) : Nat := IntKind.rec 8 16 32 64 8 16 32 64 k
theorem bitsF_eq (k : IntKind) : bitsF k = k.bits := by cases k <;> rfl
noncomputable def numF (k : IntKind) : Nat := IntKind.rec 0 1 2 3 4 5 6 7 k
theorem numF_eq (k : IntKind) : numF k = kNum k := by cases k <;> rfl
noncomputable def okK (kd : IntKind) (s : Nat) (k : Value → Ans) (d : Ans) : Ans := Bool.rec d (natK s fun s => k (.int kd (.ofNat s))) (Nat.blt s (topF kd))
theorem okK_eq (kd : IntKind) (s : Nat) (k : Value → Ans) (d : Ans) : okK kd s k d = match okTop kd s with | some v => k v | none => d := by
  unfold okK okTop
  rw [topF_eq]
  cases Nat.blt s (topK kd) with
  | true => exact natK_eq s _
  | false => rfl
noncomputable def bothK (kd : IntKind) (a b s : Nat) (k : Value → Ans) (d : Ans) : Ans := Bool.rec d (Bool.rec d (natK s fun s => k (.int kd (.ofNat s))) (Nat.blt b (topF kd))) (Nat.blt a (topF kd))
theorem bothK_eq (kd : IntKind) (a b s : Nat) (k : Value → Ans) (d : Ans) : bothK kd a b s k d = match both kd a b s with | some v => k v | none => d := by
  unfold bothK both
  rw [topF_eq]
  cases Nat.blt a (topK kd) with
  | false => rfl
  | true =>
    cases Nat.blt b (topK kd) with
    | true => exact natK_eq s _
    | false => rfl
noncomputable def truthK (b : Bool) (k : Value → Ans) : Ans := Bool.rec (k (.bool false)) (k (.bool true)) b
theorem truthK_eq (b : Bool) (k : Value → Ans) : truthK b k = k (.bool b) := by cases b <;> rfl
abbrev BinT := IntKind → Nat → Nat → (Value → Ans) → Ans → Ans
noncomputable def shlK : BinT := fun kd a b k d => Bool.rec d (okK kd (Nat.mul a (Nat.pow 2 b)) k d) (Nat.blt b (bitsF kd))
noncomputable def shrK : BinT := fun kd a b k d => Bool.rec d (natK (Nat.div a (Nat.pow 2 b)) fun s => k (.int kd (.ofNat s))) (Nat.blt b (bitsF kd))
noncomputable def binR {α : Type} (op : BinOp) (add sub mul quo rem and or xor shl shr an eql neq lss leq gtr geq : α) : α :=
  BinOp.rec add sub mul quo rem and or xor shl shr an eql neq lss leq gtr geq op
noncomputable def opN (op : BinOp) : BinT :=
  binR op (fun kd a b => okK kd (Nat.add a b)) (fun kd a b k d => Bool.rec d (okK kd (Nat.sub a b) k d) (Nat.ble b a)) (fun kd a b => okK kd (Nat.mul a b))
    (fun kd a b k d => Bool.rec (okK kd (Nat.div a b) k d) d (Nat.beq b 0)) (fun kd a b k d => Bool.rec (natK (Nat.mod a b) fun s => k (.int kd (.ofNat s))) d (Nat.beq b 0))
    (fun kd a b => bothK kd a b (Nat.land a b)) (fun kd a b => bothK kd a b (Nat.lor a b)) (fun kd a b => bothK kd a b (Nat.xor a b)) shlK shrK (fun _ _ _ _ d => d)
    (fun _ a b k _ => truthK (Nat.beq a b) k) (fun _ a b k _ => Bool.rec (k (.bool true)) (k (.bool false)) (Nat.beq a b)) (fun _ a b k _ => truthK (Nat.blt a b) k) (fun _ a b k _ => truthK (Nat.ble a b) k) (fun _ a b k _ => truthK (Nat.blt b a) k) (fun _ a b k _ => truthK (Nat.ble b a) k)
noncomputable def opS (op : BinOp) : BinT :=
  binR op (fun _ _ _ _ d => d) (fun _ _ _ _ d => d) (fun _ _ _ _ d => d) (fun _ _ _ _ d => d) (fun _ _ _ _ d => d) (fun _ _ _ _ d => d) (fun _ _ _ _ d => d) (fun _ _ _ _ d => d) shlK shrK (fun _ _ _ _ d => d)
    (fun _ _ _ _ d => d) (fun _ _ _ _ d => d) (fun _ _ _ _ d => d) (fun _ _ _ _ d => d) (fun _ _ _ _ d => d) (fun _ _ _ _ d => d)
theorem shlK_eq (kd : IntKind) (a b : Nat) (k : Value → Ans) (d : Ans) : shlK kd a b k d = match fastS .shl kd a b with | some v => k v | none => d := by
  simp only [shlK, fastS, shN]
  rw [bitsF_eq]
  cases Nat.blt b kd.bits with
  | false => rfl
  | true => exact okK_eq _ _ _ _
theorem shrK_eq (kd : IntKind) (a b : Nat) (k : Value → Ans) (d : Ans) : shrK kd a b k d = match fastS .shr kd a b with | some v => k v | none => d := by
  simp only [shrK, fastS]
  rw [bitsF_eq]
  cases Nat.blt b kd.bits with
  | false => rfl
  | true => exact natK_eq _ _
theorem opN_eq (op : BinOp) (kd : IntKind) (a b : Nat) (k : Value → Ans) (d : Ans) : opN op kd a b k d = match fastN op kd a b with | some v => k v | none => d := by
  cases op <;> simp only [fastN]
  case add => exact okK_eq _ _ _ _
  case sub =>
    show (Bool.rec d (okK kd (Nat.sub a b) k d) (Nat.ble b a) : Ans) = _
    cases Nat.ble b a with
    | false => rfl
    | true => exact okK_eq _ _ _ _
  case mul => exact okK_eq _ _ _ _
  case quo =>
    show (Bool.rec (okK kd (Nat.div a b) k d) d (Nat.beq b 0) : Ans) = _
    cases Nat.beq b 0 with
    | true => rfl
    | false => exact okK_eq _ _ _ _
  case rem =>
    show (Bool.rec (natK (Nat.mod a b) fun s => k (.int kd (.ofNat s))) d (Nat.beq b 0) : Ans) = _
    cases Nat.beq b 0 with
    | true => rfl
    | false => exact natK_eq _ _
  case and => exact bothK_eq _ _ _ _ _ _
  case or => exact bothK_eq _ _ _ _ _ _
  case xor => exact bothK_eq _ _ _ _ _ _
  case shl => exact shlK_eq _ _ _ _ _
  case shr => exact shrK_eq _ _ _ _ _
  case andNot => rfl
  case eql => exact truthK_eq _ _
  case neq =>
    show (Bool.rec (k (.bool true)) (k (.bool false)) (Nat.beq a b) : Ans) = _
    cases Nat.beq a b <;> rfl
  case lss => exact truthK_eq _ _
  case leq => exact truthK_eq _ _
  case gtr => exact truthK_eq _ _
  case geq => exact truthK_eq _ _
theorem opS_eq (op : BinOp) (kd : IntKind) (a b : Nat) (k : Value → Ans) (d : Ans) : opS op kd a b k d = match fastS op kd a b with | some v => k v | none => d := by
  cases op
  case shl => exact shlK_eq _ _ _ _ _
  case shr => exact shrK_eq _ _ _ _ _
  all_goals rfl
noncomputable def binK (op : BinOp) (x y : AV) (k : Value → Ans) (d : Ans) : Ans :=
  avV x (fun x => intV x (fun kd a => avV y (fun y => intV y (fun kd' b => Bool.rec (opS op kd a b k d) (opN op kd a b k d) (Nat.beq (numF kd) (numF kd'))) d) d) d) d
theorem binK_eq (op : BinOp) (x y : AV) (k : Value → Ans) (d : Ans) : binK op x y k d = match evI2 op x y with | some v => k v | none => d := by
  unfold evI2
  cases x with
  | v x =>
    cases y with
    | v y =>
      dsimp only
      unfold evI
      cases x with
      | int kd n =>
        cases n with
        | ofNat a =>
          cases y with
          | int kd' m =>
            cases m with
            | ofNat b =>
              show (Bool.rec (opS op kd a b k d) (opN op kd a b k d) (Nat.beq (numF kd) (numF kd')) : Ans) = _
              rw [numF_eq, numF_eq]
              dsimp only
              cases Nat.beq (kNum kd) (kNum kd') with
              | true => exact opN_eq _ _ _ _ _ _
              | false => exact opS_eq _ _ _ _ _ _
            | negSucc b => rfl
          | _ => rfl
        | negSucc a => rfl
      | _ => rfl
    | _ =>
      cases x with
      | int kd n => cases n <;> rfl
      | _ => rfl
  | _ => rfl
noncomputable def trK {α : Type} (t : Tr α) : (Tr α → Ans) → Ans := Tr.rec (fun k => k .nil) (fun l o r _ _ k => k (.node l o r)) t
theorem trK_eq {α : Type} (t : Tr α) (k : Tr α → Ans) : trK t k = k t := by cases t <;> rfl
noncomputable def heapK (h : Hp) : (Hp → Ans) → Ans := Hp.rec (fun tr nx k => natK nx fun nx => trK tr fun tr => k ⟨tr, nx⟩) h
theorem heapK_eq (h : Hp) (k : Hp → Ans) : heapK h k = k h := by
  cases h
  simp only [heapK, natK_eq, trK_eq]
noncomputable def putC (d : Option Tmp) : AV → Fr → (Fr → Ans) → Ans → Ans :=
  Option.rec (fun _ f k _ => k f) (fun d v f k bad => Fr.rec (fun tr n ds => Bool.rec bad (setP (pa d) v tr fun tr' => k ⟨tr', n, ds⟩) (Nat.blt d n)) f) d
theorem putC_eq (d : Option Tmp) (v : AV) (f : Fr) (k : Fr → Ans) (bad : Ans) : putC d v f k bad = match f.put d v with | some f' => k f' | none => bad := by
  cases d with
  | none => rfl
  | some d =>
    obtain ⟨tr, n, ds⟩ := f
    simp only [putC, Fr.put]
    cases Nat.blt d n with
    | true => exact setP_eq _ _ _ _
    | false => rfl

structure Rt where
  cf : Cf
  rf : RfF
  ro : Option Nat
  fuel : Nat
abbrev RSt := Rt → (Fr → Hp → Ans) → Fr → Hp → Ans
/-- What becomes of an operation's result. -/
noncomputable def resR (o : Oper) (cf : Cf) (rf : RfF) (k : Fr → Hp → Ans) (f : Fr) (h : Hp) : R → Ans
  | .bad => .at o
  | .val v h' => match f.put o.dst v with
    | some f' => k f' h'
    | none => .at o
  | .skip h' => match f.put o.dst (.v undef) with
    | some f' => k f' h'
    | none => .at o
  | .enter g args => cf g args h fun v h' => match f.put o.dst v with
    | some f' => k f' h'
    | none => .at o
  | .round id args => rf id args h fun v h' => match f.put o.dst v with
    | some f' => k f' h'
    | none => .at o
  | .alts l => allA l fun p => match f.put o.dst p.1 with
    | some f' => k f' p.2
    | none => .at o
noncomputable def stepR (P : Program) (cf : Cf) (rf : RfF) (ops : Array Oper) (o : Oper) (f : Fr) (h : Hp) (k : Fr → Hp → Ans) : Ans := match evWanted ops f o with
  | none => .at o
  | some false => match f.put o.dst (.v undef) with
    | some f' => k f' h
    | none => .at o
  | some true => resR o cf rf k f h (evOp P f h o)
theorem evOps_cons (P : Program) (cf : Cf) (rf : RfF) (ops : Array Oper) (o : Oper) (r : List Oper) (f : Fr) (h : Hp) (k : Fr → Hp → Ans) : evOps P cf rf ops (o :: r) f h k = stepR P cf rf ops o f h fun f' h' => evOps P cf rf ops r f' h' k := by
  simp only [evOps, stepR]
  cases evWanted ops f o with
  | none => rfl
  | some b =>
    cases b with
    | false => rfl
    | true => cases evOp P f h o <;> rfl
noncomputable def valT (o : Oper) (k : Fr → Hp → Ans) (f : Fr) (h : Hp) (v : AV) : Ans := putC o.dst v f (fun f' => k f' h) (.at o)
theorem valT_eq (o : Oper) (cf : Cf) (rf : RfF) (k : Fr → Hp → Ans) (f : Fr) (h : Hp) (v : AV) : valT o k f h v = resR o cf rf k f h (.val v h) := putC_eq _ _ _ _ _
noncomputable def contC (r : R) : Oper → RSt :=
  R.rec (motive := fun _ => Oper → RSt) (fun o _ _ _ _ => .at o)
    (fun v h' o _ k f _ => fullK v fun v => heapK h' fun h' => valT o k f h' v)
    (fun h' o _ k f _ => heapK h' fun h' => valT o k f h' (.v undef))
    (fun g args o rt k f h => rt.cf g args h fun v h' => valT o k f h' v)
    (fun id args o rt k f h => rt.rf id args h fun v h' => valT o k f h' v)
    (fun l o _ k f _ => allA l fun p => valT o k f p.2 p.1) r
theorem contC_eq (o : Oper) (r : R) (rt : Rt) (k : Fr → Hp → Ans) (f : Fr) (h : Hp) : contC r o rt k f h = resR o rt.cf rt.rf k f h r := by
  cases r <;> simp only [contC, resR, fullK_eq, heapK_eq, valT, putC_eq]
noncomputable def plainC (P : Program) (o : Oper) : RSt := fun rt k f h => contC (evPlain P f h o) o rt k f h
noncomputable def orPlain (P : Program) (f : Fr) (h : Hp) (o : Oper) (r : R) : R := match r with
  | .bad => evPlain P f h o
  | r => r
noncomputable def headC (r : Option AV) : Program → Oper → RSt :=
  Option.rec plainC (fun v _ o _ k f h => headK v fun v => valT o k f h v) r
noncomputable def optRC (r : Option (AV × Hp)) : Program → Oper → RSt :=
  Option.rec plainC (fun vh _ o _ k f _ => Prod.rec (fun v h' => fullK v fun v => heapK h' fun h' => valT o k f h' v) vh) r
noncomputable def optSC (r : Option Hp) : Program → Oper → RSt :=
  Option.rec plainC (fun h' _ o _ k f _ => heapK h' fun h' => valT o k f h' (.v undef)) r
theorem headC_eq (P : Program) (o : Oper) (r : Option AV) (rt : Rt) (k : Fr → Hp → Ans) (f : Fr) (h : Hp) : headC r P o rt k f h = resR o rt.cf rt.rf k f h (orPlain P f h o (optV h r)) := by
  cases r with
  | none => exact contC_eq o _ rt k f h
  | some v => exact (headK_eq v _).trans (valT_eq o _ _ k f h v)
theorem optRC_eq (P : Program) (o : Oper) (r : Option (AV × Hp)) (rt : Rt) (k : Fr → Hp → Ans) (f : Fr) (h : Hp) : optRC r P o rt k f h = resR o rt.cf rt.rf k f h (orPlain P f h o (optR r)) := by
  cases r with
  | none => exact contC_eq o _ rt k f h
  | some v =>
    obtain ⟨v, h'⟩ := v
    simp only [optRC, optR, orPlain, resR, fullK_eq, heapK_eq, valT, putC_eq]
theorem optSC_eq (P : Program) (o : Oper) (r : Option Hp) (rt : Rt) (k : Fr → Hp → Ans) (f : Fr) (h : Hp) : optSC r P o rt k f h = resR o rt.cf rt.rf k f h (orPlain P f h o (optS r)) := by
  cases r with
  | none => exact contC_eq o _ rt k f h
  | some h' => simp only [optSC, optS, orPlain, resR, heapK_eq, valT, putC_eq]
noncomputable def callR (r : R) : Program → Oper → RSt :=
  R.rec (motive := fun _ => Program → Oper → RSt) plainC (fun v h' _ o rt k f h => contC (.val v h') o rt k f h) (fun h' _ o rt k f h => contC (.skip h') o rt k f h) (fun g a _ o rt k f h => contC (.enter g a) o rt k f h) (fun i a _ o rt k f h => contC (.round i a) o rt k f h) (fun l _ o rt k f h => contC (.alts l) o rt k f h) r
theorem callR_eq (P : Program) (o : Oper) (r : R) (rt : Rt) (k : Fr → Hp → Ans) (f : Fr) (h : Hp) : callR r P o rt k f h = resR o rt.cf rt.rf k f h (orPlain P f h o r) := by
  cases r with
  | bad => exact contC_eq o _ rt k f h
  | val v h' => exact contC_eq o (.val v h') rt k f h
  | skip h' => exact contC_eq o (.skip h') rt k f h
  | enter g a => exact contC_eq o (.enter g a) rt k f h
  | round i a => exact contC_eq o (.round i a) rt k f h
  | alts l => exact contC_eq o (.alts l) rt k f h
/-- Where a field lies. -/
noncomputable def fieldOff (P : Program) (s : TypeId) (ix : Nat) : Option Nat := match P.underlying s with
  | some (.struct fields) => match fields[ix]? with
    | some f => match P.info? f.type with
      | some i => match Nat.beq i.size 0 with
        | true => none
        | false => some f.offset
      | none => none
    | none => none
  | _ => none
noncomputable def ptrK (v : AV) : (Nat → Nat → Ans) → Ans → Ans :=
  avR v (fun _ _ d => d) (fun a b k _ => k a b) (fun _ _ _ _ _ _ d => d) (fun _ _ d => d) (fun _ _ d => d) (fun _ _ _ _ d => d) (fun _ _ _ d => d) (fun _ _ d => d) (fun _ _ _ d => d) (fun _ _ d => d)
noncomputable def fieldAddrK (P : Program) (s : TypeId) (v : AV) (ix : Nat) (k : AV → Ans) (d : Ans) : Ans :=
  ptrK v (fun id off => Option.rec d (fun fo => natK (Nat.add off fo) fun off => k (.ptr id off)) (fieldOff P s ix)) d
theorem fieldAddrK_eq (P : Program) (s : TypeId) (v : AV) (ix : Nat) (k : AV → Ans) (d : Ans) : fieldAddrK P s v ix k d = match evFieldAddr P s v ix with | some v => k v | none => d := by
  cases v with
  | ptr id off =>
    show (Option.rec d (fun fo => natK (Nat.add off fo) fun off => k (.ptr id off)) (fieldOff P s ix) : Ans) = _
    unfold evFieldAddr fieldOff
    dsimp only
    cases P.underlying s with
    | none => rfl
    | some t =>
      cases t with
      | struct fields =>
        dsimp only
        cases fields[ix]? with
        | none => rfl
        | some f =>
          dsimp only
          cases P.info? f.type with
          | none => rfl
          | some i =>
            dsimp only
            cases Nat.beq i.size 0 with
            | true => rfl
            | false => exact natK_eq _ _
      | _ => rfl
  | _ => rfl
/-- Elements of a row, of an array: how many (none: as the slice says), how long. -/
noncomputable def elemOf (P : Program) (t : TypeId) : Option (Option Nat × Nat) := match P.underlying t with
  | some (.slice e) => match P.info? e with
    | some j => some (none, j.size)
    | none => none
  | some (.array n e) => match P.info? e with
    | some j => some (some n, j.size)
    | none => none
  | _ => none
noncomputable def slcAt (x : AV) (i size : Nat) (k : AV → Ans) (d : Ans) : Ans :=
  avR x (fun _ => d) (fun _ _ => d) (fun id off len _ _ => Bool.rec d (natK (Nat.add off (Nat.mul i size)) fun off => k (.ptr id off)) (Nat.blt i len)) (fun _ => d) (fun _ => d) (fun _ _ _ => d) (fun _ _ => d) (fun _ => d) (fun _ _ => d) (fun _ => d)
noncomputable def arrAt (x : AV) (n i size : Nat) (k : AV → Ans) (d : Ans) : Ans :=
  ptrK x (fun id off => Bool.rec d (natK (Nat.add off (Nat.mul i size)) fun off => k (.ptr id off)) (Nat.blt i n)) d
noncomputable def indexAddrK (P : Program) (t : TypeId) (x i : AV) (k : AV → Ans) (d : Ans) : Ans :=
  avV i (fun i => intV i (fun _ i => Option.rec d (fun e => Prod.rec (fun n size => Option.rec (slcAt x i size k d) (fun n => arrAt x n i size k d) n) e) (elemOf P t)) d) d
theorem indexAddrK_eq (P : Program) (t : TypeId) (x i : AV) (k : AV → Ans) (d : Ans) : indexAddrK P t x i k d = match evIndexAddr P t x i with | some v => k v | none => d := by
  cases i with
  | v y =>
    cases y with
    | int kd n =>
      cases n with
      | ofNat i =>
        show (Option.rec d (fun e => Prod.rec (fun n size => Option.rec (slcAt x i size k d) (fun n => arrAt x n i size k d) n) e) (elemOf P t) : Ans) = _
        unfold elemOf evIndexAddr
        dsimp only
        cases P.underlying t with
        | none => rfl
        | some u =>
          cases u with
          | slice e =>
            dsimp only
            cases hj : P.info? e with
            | none =>
              cases x with
              | slc id off len cap ex =>
                dsimp only
                rw [hj]
                cases Nat.blt i len <;> rfl
              | _ => rfl
            | some j =>
              cases x with
              | slc id off len cap ex =>
                show (Bool.rec d (natK (Nat.add off (Nat.mul i j.size)) fun off => k (.ptr id off)) (Nat.blt i len) : Ans) = _
                dsimp only
                rw [hj]
                cases Nat.blt i len with
                | false => rfl
                | true => exact natK_eq _ _
              | _ => rfl
          | array len e =>
            dsimp only
            cases hj : P.info? e with
            | none =>
              cases x with
              | ptr id off =>
                dsimp only
                rw [hj]
                cases Nat.blt i len <;> rfl
              | _ => rfl
            | some j =>
              cases x with
              | ptr id off =>
                show (Bool.rec d (natK (Nat.add off (Nat.mul i j.size)) fun off => k (.ptr id off)) (Nat.blt i len) : Ans) = _
                dsimp only
                rw [hj]
                cases Nat.blt i len with
                | false => rfl
                | true => exact natK_eq _ _
              | _ => rfl
          | _ => cases x <;> rfl
      | negSucc i => rfl
    | _ => rfl
  | _ => rfl
noncomputable def genC : Program → Oper → RSt := fun P o rt k f h => contC (evOp P f h o) o rt k f h
noncomputable def runC (op : Op) : Program → Oper → RSt :=
  Op.rec (motive := fun _ => Program → Oper → RSt)
    (fun x _ o _ k f h => opK x f fun v => valT o k f h v)
    (fun x _ o _ k f h => opK x f fun v => valT o k f h v)
    (fun _ _ _ => genC) (fun _ => genC) (fun _ _ => genC) (fun _ _ => genC) (fun _ _ _ => genC) (fun _ _ _ _ => genC)
    (fun t a P o rt k f h => opK a f fun a => headC (evLoad P h t a) P o rt k f h)
    (fun t a x P o rt k f h => opK a f fun a => opK x f fun x => optSC (evStore P h t a x) P o rt k f h)
    (fun _ => genC) (fun _ => genC) (fun _ => genC)
    (fun op t x y _ P o rt k f h => opK x f fun a => opK y f fun b => binK op a b (fun v => valT o k f h (.v v)) (callR (evBin0 P f h op t x y) P o rt k f h))
    (fun _ _ _ => genC)
    (fun s d x P o rt k f h => opK x f fun x => Option.rec (optRC (evMark P h s d x) P o rt k f h) (fun v => fullK v fun v => valT o k f h v) (evConv P h s d x))
    (fun _ _ => genC) (fun _ _ => genC) (fun _ _ _ => genC) (fun _ _ => genC) (fun _ _ => genC) (fun _ _ _ => genC)
    (fun t x lo hi mx P o rt k f h => optRC (evSlice P f h t x lo hi mx) P o rt k f h)
    (fun t x i P o rt k f h => opK x f fun x => fieldAddrK P t x i (fun v => valT o k f h v) (plainC P o rt k f h))
    (fun t x i P o rt k f h => opK x f fun x => headC (evField P t x i) P o rt k f h)
    (fun t x i P o rt k f h => opK x f fun x => opK i f fun i => indexAddrK P t x i (fun v => valT o k f h v) (plainC P o rt k f h))
    (fun _ _ _ => genC) (fun _ _ _ _ => genC) (fun _ _ _ _ => genC) (fun _ _ _ => genC) (fun _ _ _ _ => genC) (fun _ _ => genC) (fun _ _ => genC) (fun _ => genC) (fun _ _ _ _ => genC)
    (fun x i P o rt k f h => opK x f fun x => headC (evExtract x i) P o rt k f h)
    (fun c P o rt k f h => callR (evCall P f h c) P o rt k f h)
    (fun _ => genC) (fun _ => genC) (fun _ => genC) (fun _ _ => genC) (fun _ _ _ => genC) (fun _ _ => genC) op
theorem evOp_or (P : Program) (f : Fr) (h : Hp) (o : Oper) : evOp P f h o = orPlain P f h o (evOpS P f h o) := rfl
theorem runC_eq (P : Program) (o : Oper) (rt : Rt) (k : Fr → Hp → Ans) (f : Fr) (h : Hp) : runC o.op P o rt k f h = resR o rt.cf rt.rf k f h (evOp P f h o) := by
  have hg : genC P o rt k f h = resR o rt.cf rt.rf k f h (evOp P f h o) := contC_eq o _ rt k f h
  have hp : plainC P o rt k f h = resR o rt.cf rt.rf k f h (orPlain P f h o .bad) := contC_eq o _ rt k f h
  cases ho : o.op with
  | move x =>
    show opK x f _ = _
    rw [opK_eq, evOp_or]
    simp only [evOpS, ho, orPlain]
    exact valT_eq o _ _ k f h _
  | assign x =>
    show opK x f _ = _
    rw [opK_eq, evOp_or]
    simp only [evOpS, ho, orPlain]
    exact valT_eq o _ _ k f h _
  | binOp op t x y yt =>
    show opK x f _ = _
    rw [opK_eq]
    show opK y f _ = _
    rw [opK_eq, binK_eq, evOp_or]
    simp only [evOpS, ho, evBin]
    cases evI2 op (evA f x) (evA f y) with
    | none => exact callR_eq P o _ rt k f h
    | some v => exact valT_eq o _ _ k f h _
  | load t a =>
    show opK a f _ = _
    rw [opK_eq, evOp_or]
    simp only [evOpS, ho]
    exact headC_eq P o _ rt k f h
  | store t a x =>
    show opK a f _ = _
    rw [opK_eq]
    show opK x f _ = _
    rw [opK_eq, evOp_or]
    simp only [evOpS, ho]
    exact optSC_eq P o _ rt k f h
  | fieldAddr t x i =>
    show opK x f _ = _
    rw [opK_eq, fieldAddrK_eq, evOp_or]
    simp only [evOpS, ho]
    cases evFieldAddr P t (evA f x) i with
    | none => exact hp
    | some v => exact valT_eq o _ _ k f h _
  | field t x i =>
    show opK x f _ = _
    rw [opK_eq, evOp_or]
    simp only [evOpS, ho]
    exact headC_eq P o _ rt k f h
  | indexAddr t x i =>
    show opK x f _ = _
    rw [opK_eq]
    show opK i f _ = _
    rw [opK_eq, indexAddrK_eq, evOp_or]
    simp only [evOpS, ho]
    cases evIndexAddr P t (evA f x) (evA f i) with
    | none => exact hp
    | some v => exact valT_eq o _ _ k f h _
  | extract x i =>
    show opK x f _ = _
    rw [opK_eq, evOp_or]
    simp only [evOpS, ho]
    exact headC_eq P o _ rt k f h
  | convert s d x =>
    show opK x f _ = _
    rw [opK_eq, evOp_or]
    simp only [evOpS, ho, evConvR]
    cases evConv P h s d (evA f x) with
    | none => exact optRC_eq P o _ rt k f h
    | some v => exact (fullK_eq v _).trans (valT_eq o _ _ k f h v)
  | slice t x lo hi mx =>
    rw [evOp_or]
    simp only [evOpS, ho]
    exact optRC_eq P o _ rt k f h
  | call c =>
    rw [evOp_or]
    simp only [evOpS, ho]
    exact callR_eq P o _ rt k f h
  | _ => exact hg
noncomputable def slotOf (ops : Array Oper) (g : Nat) : Option Tmp := (ops[g]?).bind (·.dst)
noncomputable def guardC (t : Option Tmp) (want : Bool) : Program → Oper → RSt :=
  Option.rec (fun _ o _ _ _ _ => .at o)
    (fun t P o rt k f h => Bool.rec (.at o) (getK (pa t) f.tr fun v => boolG v (Bool.rec (valT o k f h (.v undef)) (runC o.op P o rt k f h) want) (Bool.rec (runC o.op P o rt k f h) (valT o k f h (.v undef)) want) (valT o k f h (.v undef)) (.at o)) (Nat.blt t f.n)) t
noncomputable def opC (P : Program) (ops : Array Oper) (o : Oper) : RSt := fun rt k f h => Option.rec (runC o.op P o rt k f h) (fun gw => guardC (slotOf ops gw.1) gw.2 P o rt k f h) o.guard
theorem opC_eq (P : Program) (ops : Array Oper) (o : Oper) (rt : Rt) (k : Fr → Hp → Ans) (f : Fr) (h : Hp) : opC P ops o rt k f h = stepR P rt.cf rt.rf ops o f h k := by
  unfold opC stepR evWanted
  cases hg : o.guard with
  | none => exact runC_eq P o rt k f h
  | some gw =>
    obtain ⟨g, want⟩ := gw
    dsimp only
    show guardC ((ops[g]?).bind (·.dst)) want P o rt k f h = _
    cases hs : (ops[g]?).bind (·.dst) with
    | none => rfl
    | some t =>
      show (Bool.rec (.at o) (getK (pa t) f.tr fun v => boolG v (Bool.rec (valT o k f h (.v undef)) (runC o.op P o rt k f h) want) (Bool.rec (runC o.op P o rt k f h) (valT o k f h (.v undef)) want) (valT o k f h (.v undef)) (.at o)) (Nat.blt t f.n) : Ans) = _
      dsimp only
      cases Nat.blt t f.n with
      | false => rfl
      | true =>
        dsimp only
        rw [slotK_eq, boolG_eq, runC_eq]
        cases f.get t with
        | v x =>
          cases x with
          | bool b =>
            cases b <;> cases want <;> first | rfl | exact putC_eq _ _ _ _ _
          | _ => first | rfl | exact putC_eq _ _ _ _ _
        | _ => first | rfl | exact putC_eq _ _ _ _ _
noncomputable def opsC (P : Program) (ops : Array Oper) (l : List Oper) : RSt := List.rec (fun _ k => k) (fun o _ ih rt k => opC P ops o rt (ih rt k)) l
theorem opsC_eq (P : Program) (ops : Array Oper) : ∀ (l : List Oper) (rt : Rt) (k : Fr → Hp → Ans) (f : Fr) (h : Hp), opsC P ops l rt k f h = evOps P rt.cf rt.rf ops l f h k
  | [], _, _, _, _ => rfl
  | o :: r, rt, k, f, h => by
    rw [evOps_cons]
    show opC P ops o rt (opsC P ops r rt k) f h = _
    rw [opC_eq]
    have : opsC P ops r rt k = fun f' h' => evOps P rt.cf rt.rf ops r f' h' k := by
      funext f' h'
      exact opsC_eq P ops r rt k f' h'
    rw [this]
end Go.Proofs.Ytcakdjnnfonijaa
