import Derived.Test.YtfgkpganiabpkaaGreatDoorE1
import Derived.Test.YtfgkpganiabpkaaGreatDoorE6
/- Proved in this claim (its last text holds the theorem): the given statement TopSharedFoldsCardSaid, with no condition of ours. This text is one part of that proof: the machine of runs apart from a program, with its laws. -/
namespace Go.Sx
noncomputable section

/-! ## Facts: closed contracts of calls, up to the names of blocks -/
structure Fact where
  f : FuncId
  args : List SV
  pre : List (Nat × ABlk)
  nx : Nat
  v : SV
  d : List (Nat × Option ABlk)
  nn : Nat
  deriving Inhabited

def capEq (a b : Cap) : Bool := match a with
  | .known n => (match b with | .known m => Nat.beq n m | .rest _ => false)
  | .rest n => (match b with | .rest m => Nat.beq n m | .known _ => false)
def fnEq (a b : Fn) : Bool := match a with
  | .func f => (match b with | .func g => Nat.beq f g | _ => false)
  | _ => false

section mt
variable {β : Type} (nxl nx : Nat)
/-- a name of the fact's is the caller's name c -/
def bindN (n c : Nat) (fw bw : Tr Nat) (d : β) (k : Tr Nat → Tr Nat → β) : β :=
  match Nat.ble (Nat.succ n) nxl && Nat.ble (Nat.succ c) nx with
  | false => d
  | true => match fw.get n with
    | some c' => (match Nat.beq c c' with | true => k fw bw | false => d)
    | none => (match bw.get c with
      | some _ => d
      | none => fw.set n (some c) fun fw => bw.set c (some n) fun bw => k fw bw)
def mtL (m : SV → SV → Tr Nat → Tr Nat → β → (Tr Nat → Tr Nat → β) → β) : List SV → List SV → Tr Nat → Tr Nat → β → (Tr Nat → Tr Nat → β) → β
  | [], ys, fw, bw, d, k => (match ys with | [] => k fw bw | _ :: _ => d)
  | x :: xs, ys, fw, bw, d, k => (match ys with
    | [] => d
    | y :: ys => m x y fw bw d fun fw bw => mtL m xs ys fw bw d k)
/-- the fact's value x is the caller's y -/
def mtV : Nat → SV → SV → Tr Nat → Tr Nat → β → (Tr Nat → Tr Nat → β) → β
  | 0, _, _, _, _, d, _ => d
  | fuel + 1, x, y, fw, bw, d, k => match x with
    | .bool a => (match y with | .bool b => (match eqBool a b with | true => k fw bw | false => d) | _ => d)
    | .int kd a => (match y with | .int kd' b => (match kindEq kd kd' && intEq a b with | true => k fw bw | false => d) | _ => d)
    | .str a => (match y with | .str b => (match natsEq a b with | true => k fw bw | false => d) | _ => d)
    | .ptr n off => (match y with | .ptr c off' => (match Nat.beq off off' with | true => bindN nxl nx n c fw bw d k | false => d) | _ => d)
    | .slice n off len cap => (match y with | .slice c off' len' cap' => (match Nat.beq off off' && Nat.beq len len' && capEq cap cap' with | true => bindN nxl nx n c fw bw d k | false => d) | _ => d)
    | .map n => (match y with | .map c => bindN nxl nx n c fw bw d k | _ => d)
    | .nilptr => (match y with | .nilptr => k fw bw | _ => d)
    | .nilslice => (match y with | .nilslice => k fw bw | _ => d)
    | .nilmap => (match y with | .nilmap => k fw bw | _ => d)
    | .nilFunc => (match y with | .nilFunc => k fw bw | _ => d)
    | .nilIface => (match y with | .nilIface => k fw bw | _ => d)
    | .func fn a b => (match y with
      | .func fn' a' b' => (match fnEq fn fn' with
        | true => mtL (mtV fuel) a a' fw bw d (fun fw bw => mtL (mtV fuel) b b' fw bw d k)
        | false => d)
      | _ => d)
    | .iface t v => (match y with | .iface t' v' => (match Nat.beq t t' with | true => mtV fuel v v' fw bw d k | false => d) | _ => d)
    | .agg cs => (match y with | .agg cs' => mtL (mtV fuel) cs cs' fw bw d k | _ => d)
    | .tuple cs => (match y with | .tuple cs' => mtL (mtV fuel) cs cs' fw bw d k | _ => d)
    | .yield _ => d
    | .sym _ => d
    | .osl _ _ => d
    | .ubool => d
    | .bad => d
def mtE (fuel : Nat) : List (Nat × SV × SV) → List (Nat × SV × SV) → Tr Nat → Tr Nat → β → (Tr Nat → Tr Nat → β) → β
  | [], ys, fw, bw, d, k => (match ys with | [] => k fw bw | _ :: _ => d)
  | (b, x, v) :: xs, ys, fw, bw, d, k => (match ys with
    | [] => d
    | (b', x', v') :: ys => (match Nat.beq b b' with
      | true => mtV nxl nx fuel x x' fw bw d fun fw bw => mtV nxl nx fuel v v' fw bw d fun fw bw => mtE fuel xs ys fw bw d k
      | false => d))
def implB (a b : Bool) : Bool := match a with | true => b | false => true
def mtB (a b : ABlk) (fw bw : Tr Nat) (d : β) (k : Tr Nat → Tr Nat → β) : β := match a with
  | .cells rw c e => (match b with | .cells rw' c' e' => (match implB rw rw' && Nat.beq e e' with | true => mtL (mtV nxl nx 8) c c' fw bw d k | false => d) | _ => d)
  | .map es clock => (match b with | .map es' clock' => (match Nat.beq clock clock' with | true => mtE nxl nx 8 es es' fw bw d k | false => d) | _ => d)
  | _ => d
def mtPre (t : Tr ABlk) : List (Nat × ABlk) → Tr Nat → Tr Nat → β → (Tr Nat → Tr Nat → β) → β
  | [], fw, bw, _, k => k fw bw
  | (n, b) :: ps, fw, bw, d, k => (match fw.get n with
    | none => d
    | some c => (match Nat.ble (Nat.succ n) nxl && Nat.ble (Nat.succ c) nx with
      | false => d
      | true => (match t.get c with
        | none => d
        | some b' => mtB nxl nx b b' fw bw d fun fw bw => mtPre t ps fw bw d k)))
end mt

section rn
variable {β : Type} (fw : Tr Nat) (nxl nx nnl : Nat)
def rnN (n : Nat) (d : β) (k : Nat → β) : β := match Nat.ble (Nat.succ n) nxl with
  | true => (match fw.get n with | some c => (match Nat.ble (Nat.succ c) nx with | true => k c | false => d) | none => d)
  | false => (match Nat.ble (Nat.succ n) nnl with | true => forceNat (Nat.add nx (Nat.sub n nxl)) k | false => d)
def rnL (m : SV → β → (SV → β) → β) : List SV → β → (List SV → β) → β
  | [], _, k => k []
  | x :: xs, d, k => m x d fun y => rnL m xs d fun ys => k (y :: ys)
end rn
/-- the fact's value, in the caller's names -/
def rnV (fw : Tr Nat) (nxl nx nnl : Nat) : Nat → {β : Type} → SV → β → (SV → β) → β
  | 0, _, _, d, _ => d
  | fuel + 1, _, x, d, k => match x with
    | .ptr n off => rnN fw nxl nx nnl n d fun n => k (.ptr n off)
    | .slice n off len cap => rnN fw nxl nx nnl n d fun n => k (.slice n off len cap)
    | .map n => rnN fw nxl nx nnl n d fun n => k (.map n)
    | .func fn a b => rnL (rnV fw nxl nx nnl fuel) a d fun a => rnL (rnV fw nxl nx nnl fuel) b d fun b => k (.func fn a b)
    | .iface t v => rnV fw nxl nx nnl fuel v d fun v => k (.iface t v)
    | .agg cs => rnL (rnV fw nxl nx nnl fuel) cs d fun cs => k (.agg cs)
    | .tuple cs => rnL (rnV fw nxl nx nnl fuel) cs d fun cs => k (.tuple cs)
    | .yield _ => d
    | .sym _ => d
    | .osl _ _ => d
    | .ubool => d
    | .bad => d
    | x => k x
section rn2
variable {β : Type} (fw : Tr Nat) (nxl nx nnl : Nat)
def rnE : List (Nat × SV × SV) → β → (List (Nat × SV × SV) → β) → β
  | [], _, k => k []
  | (b, x, v) :: es, d, k => rnV fw nxl nx nnl 8 x d fun x => rnV fw nxl nx nnl 8 v d fun v => rnE es d fun es => k ((b, x, v) :: es)
def rnB (b : Option ABlk) (d : β) (k : Option ABlk → β) : β := match b with
  | none => k none
  | some b => (match b with
    | .cells rw c e => rnL (rnV fw nxl nx nnl 8) c d fun c => k (some (.cells rw c e))
    | .map es clock => rnE fw nxl nx nnl es d fun es => k (some (.map es clock))
    | _ => d)
def rnD : List (Nat × Option ABlk) → β → (List (Nat × Option ABlk) → β) → β
  | [], _, k => k []
  | (n, b) :: ds, d, k => rnN fw nxl nx nnl n d fun n => rnB fw nxl nx nnl b d fun b => rnD ds d fun ds => k ((n, b) :: ds)
end rn2

/-- one fact, at a call; g: the globals' names lie below it -/
def applyFact (g : Nat) (fw0 bw0 : Tr Nat) (F : Fact) (args : List SV) (t : Tr ABlk) (nx : Nat) : Option Out :=
  match F with
  | ⟨_, fargs, pre, nxl, v, d, nn⟩ =>
    match Nat.ble g nx with
    | false => none
    | true => mtL (mtV nxl nx 8) fargs args fw0 bw0 none fun fw bw => mtPre nxl nx t pre fw bw none fun fw _ =>
      rnV fw nxl nx nn 8 v none fun v => rnD fw nxl nx nn d none fun d => some (.eff (.val v) d (Nat.add nx (Nat.sub nn nxl)) [])
def firstFact (g : Nat) (fw0 bw0 : Tr Nat) (f : FuncId) (args : List SV) (t : Tr ABlk) (nx : Nat) : List Fact → Option Out
  | [] => none
  | F :: Fs => match Nat.beq F.f f with
    | false => firstFact g fw0 bw0 f args t nx Fs
    | true => (match applyFact g fw0 bw0 F args t nx with
      | some o => some o
      | none => firstFact g fw0 bw0 f args t nx Fs)
/-- the facts, by function -/
def factsOf (g : Nat) (fw0 bw0 : Tr Nat) (tb : Tr (List Fact)) : Facts := fun f args t nx =>
  match tb.get f with
  | some l => (match firstFact g fw0 bw0 f args t nx l with | some o => some [o] | none => none)
  | none => none

/-! what a fact must be, by itself -/
def rwT (t : Tr ABlk) (n : Nat) : Bool := match t.get n with
  | some b => (match b with | .cells rw _ _ => rw | .row rw _ _ => rw | _ => true)
  | none => false
/-- every turned name lies in the fact's heap, to be written; the others are new -/
def turnsOk (t : Tr ABlk) (nx nn : Nat) : List (Nat × Option ABlk) → Bool
  | [] => true
  | (n, _) :: d => match Nat.ble (Nat.succ n) nx with
    | true => (match rwT t n with | true => turnsOk t nx nn d | false => false)
    | false => (match Nat.ble (Nat.succ n) nn with | true => turnsOk t nx nn d | false => false)
/-- the fact's heap -/
def preT {β : Type} : List (Nat × ABlk) → Tr ABlk → (Tr ABlk → β) → β
  | [], t, k => k t
  | (n, b) :: ps, t, k => t.set n (some b) fun t => preT ps t k

def factChk (g : Nat) (F : Fact) : Bool := preT F.pre .leaf fun t => turnsOk t F.nx F.nn F.d && Nat.ble g F.nx && Nat.ble F.nx F.nn

/-! equality, for the kernel -/
def eqL (m : SV → SV → Bool) : List SV → List SV → Bool
  | [], ys => (match ys with | [] => true | _ :: _ => false)
  | x :: xs, ys => (match ys with | [] => false | y :: ys => (match m x y with | true => eqL m xs ys | false => false))
def eqV : Nat → SV → SV → Bool
  | 0, _, _ => false
  | fuel + 1, x, y => match x with
    | .bool a => (match y with | .bool b => eqBool a b | _ => false)
    | .int kd a => (match y with | .int kd' b => kindEq kd kd' && intEq a b | _ => false)
    | .str a => (match y with | .str b => natsEq a b | _ => false)
    | .ptr n off => (match y with | .ptr c off' => Nat.beq n c && Nat.beq off off' | _ => false)
    | .slice n off len cap => (match y with | .slice c off' len' cap' => Nat.beq n c && Nat.beq off off' && Nat.beq len len' && capEq cap cap' | _ => false)
    | .map n => (match y with | .map c => Nat.beq n c | _ => false)
    | .nilptr => (match y with | .nilptr => true | _ => false)
    | .nilslice => (match y with | .nilslice => true | _ => false)
    | .nilmap => (match y with | .nilmap => true | _ => false)
    | .nilFunc => (match y with | .nilFunc => true | _ => false)
    | .nilIface => (match y with | .nilIface => true | _ => false)
    | .func fn a b => (match y with | .func fn' a' b' => fnEq fn fn' && eqL (eqV fuel) a a' && eqL (eqV fuel) b b' | _ => false)
    | .iface t v => (match y with | .iface t' v' => (match Nat.beq t t' with | true => eqV fuel v v' | false => false) | _ => false)
    | .agg cs => (match y with | .agg cs' => eqL (eqV fuel) cs cs' | _ => false)
    | .tuple cs => (match y with | .tuple cs' => eqL (eqV fuel) cs cs' | _ => false)
    | .yield _ => false
    | .sym _ => false
    | .osl _ _ => false
    | .ubool => false
    | .bad => false
def eqE : List (Nat × SV × SV) → List (Nat × SV × SV) → Bool
  | [], ys => (match ys with | [] => true | _ :: _ => false)
  | (b, x, v) :: xs, ys => (match ys with
    | [] => false
    | (b', x', v') :: ys => (match Nat.beq b b' && eqV 8 x x' && eqV 8 v v' with | true => eqE xs ys | false => false))
def eqB (a b : Option ABlk) : Bool := match a with
  | none => (match b with | none => true | some _ => false)
  | some a => (match b with
    | none => false
    | some b => (match a with
      | .cells rw c e => (match b with | .cells rw' c' e' => eqBool rw rw' && Nat.beq e e' && eqL (eqV 8) c c' | _ => false)
      | .map es clock => (match b with | .map es' clock' => Nat.beq clock clock' && eqE es es' | _ => false)
      | _ => false))
/-- every turn of the fact's is what lies there -/
def dIs (t : Tr ABlk) : List (Nat × Option ABlk) → Bool
  | [] => true
  | (n, b) :: d => match eqB b (t.get n) with | true => dIs t d | false => false
def inD (m : Nat) : List (Nat × Option ABlk) → Bool
  | [] => false
  | (n, _) :: d => match Nat.beq n m with | true => true | false => inD m d
/-- no name twice -/
def onceD : List (Nat × Option ABlk) → Bool
  | [] => true
  | (n, _) :: d => match inD n d with | true => false | false => onceD d
/-- every old name that was turned is told -/
def wIn (nx : Nat) (d : List (Nat × Option ABlk)) : List Nat → Bool
  | [] => true
  | m :: ms => match Nat.ble (Nat.succ m) nx with
    | true => (match inD m d with | true => wIn nx d ms | false => false)
    | false => wIn nx d ms
/-- the call, run: it yields what the fact says -/
def factRun (T : PT) (facts : Facts) (k : Nat) (F : Fact) : Bool :=
  preT F.pre .leaf fun t => runC T facts k F.f F.args t F.nx fun v t' nx' W => eqV 8 F.v v && dIs t' F.d && onceD F.d && Nat.ble nx' F.nn && wIn F.nx F.d W

end
end Go.Sx

namespace Go.Sx
open Go
set_option linter.unusedVariables false
set_option linter.unusedSimpArgs false

/-! ## Values in other names -/
mutual
def RenV (ρ : Nat → Option Nat) : SV → SV → Prop
  | .bool b, y => y = .bool b
  | .int k n, y => y = .int k n
  | .str s, y => y = .str s
  | .ptr n off, y => ∃ c, ρ n = some c ∧ y = .ptr c off
  | .nilptr, y => y = .nilptr
  | .slice n off len cap, y => ∃ c, ρ n = some c ∧ y = .slice c off len cap
  | .nilslice, y => y = .nilslice
  | .map n, y => ∃ c, ρ n = some c ∧ y = .map c
  | .nilmap, y => y = .nilmap
  | .func fn a b, y => ∃ a' b', RenL ρ a a' ∧ RenL ρ b b' ∧ y = .func fn a' b'
  | .yield n, y => False
  | .sym n, y => False
  | .osl n r, y => False
  | .ubool, y => False
  | .nilFunc, y => y = .nilFunc
  | .iface t x, y => ∃ x', RenV ρ x x' ∧ y = .iface t x'
  | .nilIface, y => y = .nilIface
  | .agg cs, y => ∃ cs', RenL ρ cs cs' ∧ y = .agg cs'
  | .tuple cs, y => ∃ cs', RenL ρ cs cs' ∧ y = .tuple cs'
  | .bad, y => False
def RenL (ρ : Nat → Option Nat) : List SV → List SV → Prop
  | [], ys => ys = []
  | x :: xs, ys => ∃ y ys', RenV ρ x y ∧ RenL ρ xs ys' ∧ ys = y :: ys'
end

section
variable {ρ : Nat → Option Nat} {E1 E2 : Env}
mutual
theorem RenV.mono {ρ ρ' : Nat → Option Nat} (h : ∀ n c, ρ n = some c → ρ' n = some c) : ∀ (x y : SV), RenV ρ x y → RenV ρ' x y
  | .bool _, _, r => by simpa only [RenV] using r
  | .int _ _, _, r => by simpa only [RenV] using r
  | .str _, _, r => by simpa only [RenV] using r
  | .nilptr, _, r => by simpa only [RenV] using r
  | .nilslice, _, r => by simpa only [RenV] using r
  | .nilmap, _, r => by simpa only [RenV] using r
  | .nilFunc, _, r => by simpa only [RenV] using r
  | .nilIface, _, r => by simpa only [RenV] using r
  | .bad, _, r => by simp only [RenV] at r
  | .yield _, _, r => by simp only [RenV] at r
  | .sym _, _, r => by simp only [RenV] at r
  | .osl _ _, _, r => by simp only [RenV] at r
  | .ubool, _, r => by simp only [RenV] at r
  | .ptr n off, _, r => by simp only [RenV] at r ⊢; obtain ⟨c, a, b⟩ := r; exact ⟨c, h _ _ a, b⟩
  | .slice n off len cap, _, r => by simp only [RenV] at r ⊢; obtain ⟨c, a, b⟩ := r; exact ⟨c, h _ _ a, b⟩
  | .map n, _, r => by simp only [RenV] at r ⊢; obtain ⟨c, a, b⟩ := r; exact ⟨c, h _ _ a, b⟩
  | .func fn a b, _, r => by simp only [RenV] at r ⊢; obtain ⟨a', b', ha, hb, e⟩ := r; exact ⟨a', b', RenL.mono h _ _ ha, RenL.mono h _ _ hb, e⟩
  | .iface t x, _, r => by simp only [RenV] at r ⊢; obtain ⟨x', a, e⟩ := r; exact ⟨x', RenV.mono h _ _ a, e⟩
  | .agg cs, _, r => by simp only [RenV] at r ⊢; obtain ⟨x', a, e⟩ := r; exact ⟨x', RenL.mono h _ _ a, e⟩
  | .tuple cs, _, r => by simp only [RenV] at r ⊢; obtain ⟨x', a, e⟩ := r; exact ⟨x', RenL.mono h _ _ a, e⟩
theorem RenL.mono {ρ ρ' : Nat → Option Nat} (h : ∀ n c, ρ n = some c → ρ' n = some c) : ∀ (x y : List SV), RenL ρ x y → RenL ρ' x y
  | [], _, r => by simpa only [RenL] using r
  | x :: xs, _, r => by simp only [RenL] at r ⊢; obtain ⟨y, ys, a, b, e⟩ := r; exact ⟨y, ys, RenV.mono h _ _ a, RenL.mono h _ _ b, e⟩
end
mutual
theorem RenV.tr (h : ∀ n c, ρ n = some c → E1 n = E2 c) : ∀ (x y : SV) (v : Value), RenV ρ x y → (VRel E1 x v ↔ VRel E2 y v)
  | .bool _, _, _, r => by simp only [RenV] at r; subst r; simp only [VRel]
  | .int _ _, _, _, r => by simp only [RenV] at r; subst r; simp only [VRel]
  | .str _, _, _, r => by simp only [RenV] at r; subst r; simp only [VRel]
  | .nilptr, _, _, r => by simp only [RenV] at r; subst r; simp only [VRel]
  | .nilslice, _, _, r => by simp only [RenV] at r; subst r; simp only [VRel]
  | .nilmap, _, _, r => by simp only [RenV] at r; subst r; simp only [VRel]
  | .nilFunc, _, _, r => by simp only [RenV] at r; subst r; simp only [VRel]
  | .nilIface, _, _, r => by simp only [RenV] at r; subst r; simp only [VRel]
  | .bad, _, _, r => by simp only [RenV] at r
  | .yield _, _, _, r => by simp only [RenV] at r
  | .sym _, _, _, r => by simp only [RenV] at r
  | .osl _ _, _, _, r => by simp only [RenV] at r
  | .ubool, _, _, r => by simp only [RenV] at r
  | .ptr n off, _, v, r => by simp only [RenV] at r; obtain ⟨c, a, rfl⟩ := r; simp only [VRel, h n c a]
  | .slice n off len cap, _, v, r => by simp only [RenV] at r; obtain ⟨c, a, rfl⟩ := r; simp only [VRel, h n c a]
  | .map n, _, v, r => by simp only [RenV] at r; obtain ⟨c, a, rfl⟩ := r; simp only [VRel, h n c a]
  | .func fn a b, _, v, r => by
    simp only [RenV] at r; obtain ⟨a', b', ha, hb, rfl⟩ := r
    simp only [VRel]
    constructor
    · rintro ⟨va, vb, h1, h2, e⟩; exact ⟨va, vb, (RenL.tr h _ _ va ha).mp h1, (RenL.tr h _ _ vb hb).mp h2, e⟩
    · rintro ⟨va, vb, h1, h2, e⟩; exact ⟨va, vb, (RenL.tr h _ _ va ha).mpr h1, (RenL.tr h _ _ vb hb).mpr h2, e⟩
  | .iface t x, _, v, r => by
    simp only [RenV] at r; obtain ⟨x', a, rfl⟩ := r
    simp only [VRel]
    constructor
    · rintro ⟨u, h1, e⟩; exact ⟨u, (RenV.tr h _ _ u a).mp h1, e⟩
    · rintro ⟨u, h1, e⟩; exact ⟨u, (RenV.tr h _ _ u a).mpr h1, e⟩
  | .agg cs, _, v, r => by
    simp only [RenV] at r; obtain ⟨x', a, rfl⟩ := r
    simp only [VRel]
    constructor
    · rintro ⟨u, h1, e⟩; exact ⟨u, (RenL.tr h _ _ u a).mp h1, e⟩
    · rintro ⟨u, h1, e⟩; exact ⟨u, (RenL.tr h _ _ u a).mpr h1, e⟩
  | .tuple cs, _, v, r => by
    simp only [RenV] at r; obtain ⟨x', a, rfl⟩ := r
    simp only [VRel]
    constructor
    · rintro ⟨u, h1, e⟩; exact ⟨u, (RenL.tr h _ _ u a).mp h1, e⟩
    · rintro ⟨u, h1, e⟩; exact ⟨u, (RenL.tr h _ _ u a).mpr h1, e⟩
theorem RenL.tr (h : ∀ n c, ρ n = some c → E1 n = E2 c) : ∀ (x y : List SV) (v : List Value), RenL ρ x y → (VRelL E1 x v ↔ VRelL E2 y v)
  | [], _, _, r => by simp only [RenL] at r; subst r; simp only [VRelL]
  | x :: xs, _, v, r => by
    simp only [RenL] at r; obtain ⟨y, ys, a, b, rfl⟩ := r
    simp only [VRelL]
    constructor
    · rintro ⟨u, us, h1, h2, e⟩; exact ⟨u, us, (RenV.tr h _ _ u a).mp h1, (RenL.tr h _ _ us b).mp h2, e⟩
    · rintro ⟨u, us, h1, h2, e⟩; exact ⟨u, us, (RenV.tr h _ _ u a).mpr h1, (RenL.tr h _ _ us b).mpr h2, e⟩
end
theorem RenL.len : ∀ {x y : List SV}, RenL ρ x y → y.length = x.length
  | [], _, r => by simp only [RenL] at r; subst r; rfl
  | x :: xs, _, r => by simp only [RenL] at r; obtain ⟨y, ys, _, b, rfl⟩ := r; simp [RenL.len b]
theorem RenL.at : ∀ {x y : List SV}, RenL ρ x y → ∀ (i : Nat), (∀ a, x[i]? = some a → ∃ b, y[i]? = some b ∧ RenV ρ a b) ∧ (∀ b, y[i]? = some b → ∃ a, x[i]? = some a ∧ RenV ρ a b)
  | [], _, r, i => by simp only [RenL] at r; subst r; simp
  | x :: xs, _, r, i => by
    simp only [RenL] at r; obtain ⟨y, ys, a, b, rfl⟩ := r
    cases i with
    | zero => simp only [List.getElem?_cons_zero, Option.some.injEq]; exact ⟨fun c e => ⟨y, rfl, e ▸ a⟩, fun c e => ⟨x, rfl, e ▸ a⟩⟩
    | succ i => simpa using RenL.at b i

def RenE (ρ : Nat → Option Nat) : List (Nat × SV × SV) → List (Nat × SV × SV) → Prop
  | [], ys => ys = []
  | (b, x, v) :: xs, ys => ∃ x' v' ys', RenV ρ x x' ∧ RenV ρ v v' ∧ RenE ρ xs ys' ∧ ys = (b, x', v') :: ys'
theorem RenE.tr (h : ∀ n c, ρ n = some c → E1 n = E2 c) : ∀ {x y : List (Nat × SV × SV)} {es : List MapEntry}, RenE ρ x y → (MapRel E1 x es ↔ MapRel E2 y es)
  | [], _, es, r => by simp only [RenE] at r; subst r; simp only [MapRel]
  | (b, x, v) :: xs, _, es, r => by
    simp only [RenE] at r
    obtain ⟨x', v', ys', a1, a2, a3, rfl⟩ := r
    simp only [MapRel]
    constructor
    · rintro ⟨kv, vv, es', h1, h2, h3, e⟩; exact ⟨kv, vv, es', (RenV.tr h _ _ _ a1).mp h1, (RenV.tr h _ _ _ a2).mp h2, (RenE.tr h a3).mp h3, e⟩
    · rintro ⟨kv, vv, es', h1, h2, h3, e⟩; exact ⟨kv, vv, es', (RenV.tr h _ _ _ a1).mpr h1, (RenV.tr h _ _ _ a2).mpr h2, (RenE.tr h a3).mpr h3, e⟩
/-- a fact's block b is the caller's b' (which may be written where b may not) -/
def RenB (ρ : Nat → Option Nat) (b b' : ABlk) : Prop :=
  (∃ rw rw' c c' e, b = .cells rw c e ∧ b' = .cells rw' c' e ∧ (rw = true → rw' = true) ∧ RenL ρ c c') ∨
  (∃ es es' clock, b = .map es clock ∧ b' = .map es' clock ∧ RenE ρ es es')
theorem RenB.down {P : Program} (h : ∀ n c, ρ n = some c → E1 n = E2 c) {b b' : ABlk} (r : RenB ρ b b') {e : Ent} {w : World} (hb : BRel P E2 e b' w) : BRel P E1 e b w := by
  rcases r with ⟨rw, rw', c, c', ty, rfl, rfl, hrw, hc⟩ | ⟨es, es', clock, rfl, rfl, hes⟩
  · obtain ⟨arr, fz, h1, h2, h3⟩ := hb
    refine ⟨arr, fz, h1, fun i x hx => ?_, fun hr => h3 (hrw hr)⟩
    obtain ⟨y, hy, hxy⟩ := (hc.at i).1 x hx
    obtain ⟨v, hv, hr⟩ := h2 i y hy
    exact ⟨v, hv, (RenV.tr h _ _ v hxy).mpr hr⟩
  · obtain ⟨l, h1, h2⟩ := hb
    exact ⟨l, h1, (RenE.tr h hes).mpr h2⟩
theorem RenB.rw {b b' : ABlk} (r : RenB ρ b b') (h : rwB b = true) : rwB b' = true := by
  rcases r with ⟨rw, rw', c, c', ty, rfl, rfl, hrw, hc⟩ | ⟨es, es', clock, rfl, rfl, hes⟩
  · exact hrw h
  · rfl
/-- a block of the fact's result, in the caller's names -/
def RenR (ρ : Nat → Option Nat) (b b' : ABlk) : Prop :=
  (∃ rw c c' e, b = .cells rw c e ∧ b' = .cells rw c' e ∧ RenL ρ c c') ∨ (∃ es es' clock, b = .map es clock ∧ b' = .map es' clock ∧ RenE ρ es es')
theorem RenR.up {P : Program} (h : ∀ n c, ρ n = some c → E1 n = E2 c) {b b' : ABlk} (r : RenR ρ b b') {e : Ent} {w : World} (hb : BRel P E1 e b w) : BRel P E2 e b' w := by
  rcases r with ⟨rw, c, c', ty, rfl, rfl, hc⟩ | ⟨es, es', clock, rfl, rfl, hes⟩
  · obtain ⟨arr, fz, h1, h2, h3⟩ := hb
    refine ⟨arr, fz, h1, fun i y hy => ?_, h3⟩
    obtain ⟨x, hx, hxy⟩ := (hc.at i).2 y hy
    obtain ⟨v, hv, hr⟩ := h2 i x hx
    exact ⟨v, hv, (RenV.tr h _ _ v hxy).mp hr⟩
  · obtain ⟨l, h1, h2⟩ := hb
    exact ⟨l, h1, (RenE.tr h hes).mp h2⟩
theorem RenR.rw {b b' : ABlk} (r : RenR ρ b b') : rwB b' = rwB b := by
  rcases r with ⟨rw, c, c', ty, rfl, rfl, hc⟩ | ⟨es, es', clock, rfl, rfl, hes⟩ <;> rfl
end

/-! ## Matching -/
section
variable {nxl nx : Nat}
noncomputable def rho0 (nxl nx : Nat) (fw : Tr Nat) : Nat → Option Nat := fun n => match fw.get n with
  | some c => if n < nxl ∧ c < nx then some c else none
  | none => none
def InjT (fw bw : Tr Nat) : Prop := ∀ n c, fw.get n = some c → bw.get c = some n
def ExtT (fw fw' : Tr Nat) : Prop := ∀ n c, fw.get n = some c → fw'.get n = some c
theorem ExtT.refl (fw : Tr Nat) : ExtT fw fw := fun _ _ h => h
theorem ExtT.trans {a b c : Tr Nat} (h : ExtT a b) (k : ExtT b c) : ExtT a c := fun n x y => k n x (h n x y)
theorem rho0_some {fw : Tr Nat} {n c : Nat} (h : fw.get n = some c) (h1 : n < nxl) (h2 : c < nx) : rho0 nxl nx fw n = some c := by
  unfold rho0; rw [h]; exact if_pos ⟨h1, h2⟩
theorem ExtT.rho {a b : Tr Nat} (h : ExtT a b) : ∀ n c, rho0 nxl nx a n = some c → rho0 nxl nx b n = some c := by
  intro n c hc
  unfold rho0 at hc ⊢
  cases ha : a.get n with
  | none => rw [ha] at hc; cases hc
  | some x => rw [ha] at hc; rw [h n x ha]; exact hc

/-- what a step of the matching yields -/
def Step (nxl nx : Nat) (fw bw : Tr Nat) (k : Tr Nat → Tr Nat → Option Out) (r : Out) (Q : (Nat → Option Nat) → Prop) : Prop :=
  ∃ fw' bw', k fw' bw' = some r ∧ ExtT fw fw' ∧ InjT fw' bw' ∧ Q (rho0 nxl nx fw')

theorem bindN_ok {n c : Nat} {fw bw : Tr Nat} {k : Tr Nat → Tr Nat → Option Out} {r : Out} (hi : InjT fw bw) (h : bindN nxl nx n c fw bw none k = some r) : Step nxl nx fw bw k r fun ρ => ρ n = some c := by
  unfold bindN at h
  cases hlt : Nat.ble (Nat.succ n) nxl && Nat.ble (Nat.succ c) nx with
  | false => rw [hlt] at h; cases h
  | true =>
    rw [hlt] at h; dsimp only at h
    rw [Bool.and_eq_true] at hlt
    have h1 := ble_true hlt.1; have h2 := ble_true hlt.2
    cases hf : fw.get n with
    | some c' =>
      rw [hf] at h; dsimp only at h
      cases hc : Nat.beq c c' with
      | false => rw [hc] at h; cases h
      | true =>
        rw [hc] at h
        have := beq_true hc; subst this
        exact ⟨fw, bw, h, ExtT.refl _, hi, rho0_some hf h1 h2⟩
    | none =>
      rw [hf] at h; dsimp only at h
      cases hb : bw.get c with
      | some x => rw [hb] at h; cases h
      | none =>
        rw [hb] at h; dsimp only at h
        rw [Tr.set_k, Tr.set_k] at h
        refine ⟨_, _, h, fun m x hm => ?_, fun m x hm => ?_, ?_⟩
        · rw [Tr.get_put, if_neg (fun e => by subst e; rw [hf] at hm; cases hm)]; exact hm
        · rw [Tr.get_put] at hm ⊢
          split at hm
          · rename_i e; subst e; cases hm; rw [if_pos rfl]
          · rw [if_neg (fun e => by subst e; have := hi m x hm; rw [hb] at this; cases this)]
            exact hi m x hm
        · exact rho0_some (by rw [Tr.get_put, if_pos rfl]) h1 h2

theorem mtL_ok {m : SV → SV → Tr Nat → Tr Nat → Option Out → (Tr Nat → Tr Nat → Option Out) → Option Out}
    (hm : ∀ x y fw bw k r, InjT fw bw → m x y fw bw none k = some r → Step nxl nx fw bw k r fun ρ => RenV ρ x y) : ∀ (xs ys : List SV) {fw bw : Tr Nat} {k : Tr Nat → Tr Nat → Option Out} {r : Out}, InjT fw bw → mtL m xs ys fw bw none k = some r →
    Step nxl nx fw bw k r fun ρ => RenL ρ xs ys
  | [], ys, fw, bw, k, r, hi, h => by
    cases ys with
    | nil => exact ⟨fw, bw, h, ExtT.refl _, hi, by simp only [RenL]⟩
    | cons y ys => cases h
  | x :: xs, ys, fw, bw, k, r, hi, h => by
    cases ys with
    | nil => cases h
    | cons y ys =>
      obtain ⟨fw1, bw1, h1, e1, i1, q1⟩ := hm x y fw bw _ r hi h
      obtain ⟨fw2, bw2, h2, e2, i2, q2⟩ := mtL_ok hm xs ys i1 h1
      exact ⟨fw2, bw2, h2, e1.trans e2, i2, by simp only [RenL]; exact ⟨y, ys, RenV.mono e2.rho _ _ q1, q2, rfl⟩⟩

theorem capEq_inv {a b : Cap} (h : capEq a b = true) : a = b := by
  cases a <;> cases b <;> simp only [capEq] at h <;> first | (cases h; done) | (have := beq_true h; subst this; rfl)
theorem fnEq_inv {a b : Fn} (h : fnEq a b = true) : a = b := by
  cases a <;> cases b <;> simp only [fnEq] at h <;> first | (cases h; done) | (have := beq_true h; subst this; rfl)

theorem mtV_ok : ∀ (fuel : Nat) (x y : SV) (fw bw : Tr Nat) (k : Tr Nat → Tr Nat → Option Out) (r : Out), InjT fw bw → mtV nxl nx fuel x y fw bw none k = some r → Step nxl nx fw bw k r fun ρ => RenV ρ x y
  | 0, x, y, fw, bw, k, r, hi, h => by cases h
  | fuel + 1, x, y, fw, bw, k, r, hi, h => by
    have stay : ∀ {z : SV}, k fw bw = some r → (∀ ρ, RenV ρ x z) → y = z → Step nxl nx fw bw k r fun ρ => RenV ρ x y := fun hk hz e => ⟨fw, bw, hk, ExtT.refl _, hi, e ▸ hz _⟩
    cases x <;> cases y <;> simp only [mtV] at h <;> first | (cases h; done) | skip
    case bool.bool a b =>
      split at h
      · rename_i e; rw [eqBool_eq] at e; have : a = b := by simpa using e
        subst this; exact ⟨fw, bw, h, ExtT.refl _, hi, by simp only [RenV]⟩
      · cases h
    case int.int kd a kd' b =>
      split at h
      · rename_i e
        rw [Bool.and_eq_true, intEq_eq] at e
        have h1 := kindEq_inv e.1
        have h2 : a = b := by simpa using e.2
        subst h1; subst h2; exact ⟨fw, bw, h, ExtT.refl _, hi, by simp only [RenV]⟩
      · cases h
    case str.str a b =>
      split at h
      · rename_i e; rw [natsEq_eq] at e; have : a = b := by simpa using e
        subst this; exact ⟨fw, bw, h, ExtT.refl _, hi, by simp only [RenV]⟩
      · cases h
    case ptr.ptr n off c off' =>
      split at h
      · rename_i e
        have := beq_true e; subst this
        obtain ⟨fw1, bw1, h1, e1, i1, q1⟩ := bindN_ok hi h
        exact ⟨fw1, bw1, h1, e1, i1, by simp only [RenV]; exact ⟨c, q1, rfl⟩⟩
      · cases h
    case slice.slice n off len cap c off' len' cap' =>
      split at h
      · rename_i e
        rw [Bool.and_eq_true, Bool.and_eq_true] at e
        have a1 := beq_true e.1.1; have a2 := beq_true e.1.2; have a3 := capEq_inv e.2
        subst a1; subst a2; subst a3
        obtain ⟨fw1, bw1, h1, e1, i1, q1⟩ := bindN_ok hi h
        exact ⟨fw1, bw1, h1, e1, i1, by simp only [RenV]; exact ⟨c, q1, rfl⟩⟩
      · cases h
    case map.map n c =>
      obtain ⟨fw1, bw1, h1, e1, i1, q1⟩ := bindN_ok hi h
      exact ⟨fw1, bw1, h1, e1, i1, by simp only [RenV]; exact ⟨c, q1, rfl⟩⟩
    case nilptr.nilptr => exact ⟨fw, bw, h, ExtT.refl _, hi, by simp only [RenV]⟩
    case nilslice.nilslice => exact ⟨fw, bw, h, ExtT.refl _, hi, by simp only [RenV]⟩
    case nilmap.nilmap => exact ⟨fw, bw, h, ExtT.refl _, hi, by simp only [RenV]⟩
    case nilFunc.nilFunc => exact ⟨fw, bw, h, ExtT.refl _, hi, by simp only [RenV]⟩
    case nilIface.nilIface => exact ⟨fw, bw, h, ExtT.refl _, hi, by simp only [RenV]⟩
    case func.func fn a b fn' a' b' =>
      split at h
      · rename_i e
        have := fnEq_inv e; subst this
        obtain ⟨fw1, bw1, h1, e1, i1, q1⟩ := mtL_ok (mtV_ok fuel) a a' hi h
        obtain ⟨fw2, bw2, h2, e2, i2, q2⟩ := mtL_ok (mtV_ok fuel) b b' i1 h1
        exact ⟨fw2, bw2, h2, e1.trans e2, i2, by simp only [RenV]; exact ⟨a', b', RenL.mono e2.rho _ _ q1, q2, rfl⟩⟩
      · cases h
    case iface.iface t v t' v' =>
      split at h
      · rename_i e
        have := beq_true e; subst this
        obtain ⟨fw1, bw1, h1, e1, i1, q1⟩ := mtV_ok fuel v v' fw bw k r hi h
        exact ⟨fw1, bw1, h1, e1, i1, by simp only [RenV]; exact ⟨v', q1, rfl⟩⟩
      · cases h
    case agg.agg cs cs' =>
      obtain ⟨fw1, bw1, h1, e1, i1, q1⟩ := mtL_ok (mtV_ok fuel) cs cs' hi h
      exact ⟨fw1, bw1, h1, e1, i1, by simp only [RenV]; exact ⟨cs', q1, rfl⟩⟩
    case tuple.tuple cs cs' =>
      obtain ⟨fw1, bw1, h1, e1, i1, q1⟩ := mtL_ok (mtV_ok fuel) cs cs' hi h
      exact ⟨fw1, bw1, h1, e1, i1, by simp only [RenV]; exact ⟨cs', q1, rfl⟩⟩

theorem mtE_ok {fuel : Nat} : ∀ (xs ys : List (Nat × SV × SV)) {fw bw : Tr Nat} {k : Tr Nat → Tr Nat → Option Out} {r : Out}, InjT fw bw → mtE nxl nx fuel xs ys fw bw none k = some r → Step nxl nx fw bw k r fun ρ => RenE ρ xs ys
  | [], ys, fw, bw, k, r, hi, h => by
    cases ys with
    | nil => exact ⟨fw, bw, h, ExtT.refl _, hi, by simp only [RenE]⟩
    | cons y ys => cases h
  | (b, x, v) :: xs, ys, fw, bw, k, r, hi, h => by
    cases ys with
    | nil => cases h
    | cons y ys =>
      obtain ⟨b', x', v'⟩ := y
      simp only [mtE] at h
      split at h
      · rename_i e
        have := beq_true e; subst this
        obtain ⟨fw1, bw1, h1, e1, i1, q1⟩ := mtV_ok fuel x x' fw bw _ r hi h
        obtain ⟨fw2, bw2, h2, e2, i2, q2⟩ := mtV_ok fuel v v' fw1 bw1 _ r i1 h1
        obtain ⟨fw3, bw3, h3, e3, i3, q3⟩ := mtE_ok xs ys i2 h2
        exact ⟨fw3, bw3, h3, e1.trans (e2.trans e3), i3, by simp only [RenE]; exact ⟨x', v', ys, RenV.mono (e2.trans e3).rho _ _ q1, RenV.mono e3.rho _ _ q2, q3, rfl⟩⟩
      · cases h

theorem RenB.mono {ρ ρ' : Nat → Option Nat} (h : ∀ n c, ρ n = some c → ρ' n = some c) {b b' : ABlk} (r : RenB ρ b b') : RenB ρ' b b' := by
  rcases r with ⟨rw, rw', c, c', ty, rfl, rfl, hrw, hc⟩ | ⟨es, es', clock, rfl, rfl, hes⟩
  · exact .inl ⟨rw, rw', c, c', ty, rfl, rfl, hrw, RenL.mono h _ _ hc⟩
  · refine .inr ⟨es, es', clock, rfl, rfl, ?_⟩
    clear clock
    induction es generalizing es' with
    | nil => simpa only [RenE] using hes
    | cons e es ih =>
      obtain ⟨b, x, v⟩ := e
      simp only [RenE] at hes ⊢
      obtain ⟨x', v', ys', a1, a2, a3, e⟩ := hes
      exact ⟨x', v', ys', RenV.mono h _ _ a1, RenV.mono h _ _ a2, ih ys' a3, e⟩

theorem mtB_ok {b b' : ABlk} {fw bw : Tr Nat} {k : Tr Nat → Tr Nat → Option Out} {r : Out} (hi : InjT fw bw) (h : mtB nxl nx b b' fw bw none k = some r) : Step nxl nx fw bw k r fun ρ => RenB ρ b b' := by
  cases b <;> cases b' <;> simp only [mtB] at h <;> first | (cases h; done) | skip
  case cells.cells rw c e rw' c' e' =>
    split at h
    · rename_i hx
      rw [Bool.and_eq_true] at hx
      have := beq_true hx.2; subst this
      obtain ⟨fw1, bw1, h1, e1, i1, q1⟩ := mtL_ok (mtV_ok 8) c c' hi h
      exact ⟨fw1, bw1, h1, e1, i1, .inl ⟨rw, rw', c, c', _, rfl, rfl, fun hr => by subst hr; exact hx.1, q1⟩⟩
    · cases h
  case map.map es clock es' clock' =>
    split at h
    · rename_i hx
      have := beq_true hx; subst this
      obtain ⟨fw1, bw1, h1, e1, i1, q1⟩ := mtE_ok es es' hi h
      exact ⟨fw1, bw1, h1, e1, i1, .inr ⟨es, es', _, rfl, rfl, q1⟩⟩
    · cases h

theorem mtPre_ok {t : Tr ABlk} : ∀ (ps : List (Nat × ABlk)) {fw bw : Tr Nat} {k : Tr Nat → Tr Nat → Option Out} {r : Out}, InjT fw bw → mtPre nxl nx t ps fw bw none k = some r →
    Step nxl nx fw bw k r fun ρ => ∀ n b, (n, b) ∈ ps → ∃ c b', ρ n = some c ∧ t.get c = some b' ∧ RenB ρ b b'
  | [], fw, bw, k, r, hi, h => ⟨fw, bw, h, ExtT.refl _, hi, fun n b hm => by cases hm⟩
  | (n, b) :: ps, fw, bw, k, r, hi, h => by
    simp only [mtPre] at h
    cases hf : fw.get n with
    | none => rw [hf] at h; cases h
    | some c =>
      rw [hf] at h; dsimp only at h
      cases hlt : Nat.ble (Nat.succ n) nxl && Nat.ble (Nat.succ c) nx with
      | false => rw [hlt] at h; cases h
      | true =>
        rw [hlt] at h; dsimp only at h
        rw [Bool.and_eq_true] at hlt
        have hl1 := ble_true hlt.1; have hl2 := ble_true hlt.2
        cases ht : t.get c with
        | none => rw [ht] at h; cases h
        | some b' =>
          rw [ht] at h; dsimp only at h
          obtain ⟨fw1, bw1, h1, e1, i1, q1⟩ := mtB_ok hi h
          obtain ⟨fw2, bw2, h2, e2, i2, q2⟩ := mtPre_ok ps i1 h1
          refine ⟨fw2, bw2, h2, e1.trans e2, i2, fun m x hm => ?_⟩
          rcases List.mem_cons.mp hm with e | hm
          · cases e
            exact ⟨c, b', (e1.trans e2).rho n c (rho0_some hf hl1 hl2), ht, q1.mono e2.rho⟩
          · exact q2 m x hm
end
end Go.Sx

namespace Go.Sx
open Go
set_option linter.unusedVariables false
set_option linter.unusedSimpArgs false

section
variable {fw bw : Tr Nat} {nxl nx nnl : Nat}
noncomputable def rho (fw : Tr Nat) (nxl nx nnl : Nat) : Nat → Option Nat := fun n => if n < nxl then rho0 nxl nx fw n else if n < nnl then some (nx + (n - nxl)) else none
theorem rho_lt {n c : Nat} (h : rho0 nxl nx fw n = some c) : n < nxl ∧ c < nx ∧ fw.get n = some c := by
  unfold rho0 at h
  cases hf : fw.get n with
  | none => rw [hf] at h; cases h
  | some x =>
    rw [hf] at h; dsimp only at h
    split at h
    · cases h; rename_i y; exact ⟨y.1, y.2, rfl⟩
    · cases h
theorem rho_cases {n c : Nat} (h : rho fw nxl nx nnl n = some c) : (n < nxl ∧ c < nx ∧ rho0 nxl nx fw n = some c) ∨ (nxl ≤ n ∧ n < nnl ∧ c = nx + (n - nxl)) := by
  unfold rho at h
  split at h
  · rename_i y; obtain ⟨a, b, _⟩ := rho_lt h; exact .inl ⟨a, b, h⟩
  · split at h
    · cases h; exact .inr ⟨by omega, by omega, rfl⟩
    · cases h
theorem rho_inj (hi : InjT fw bw) {n m c : Nat} (h1 : rho fw nxl nx nnl n = some c) (h2 : rho fw nxl nx nnl m = some c) : n = m := by
  rcases rho_cases h1 with ⟨a1, a2, a3⟩ | ⟨a1, a2, a3⟩ <;> rcases rho_cases h2 with ⟨b1, b2, b3⟩ | ⟨b1, b2, b3⟩
  · have := hi n c (rho_lt a3).2.2
    rw [hi m c (rho_lt b3).2.2] at this
    cases this; rfl
  · omega
  · omega
  · omega

theorem rnN_ok {n : Nat} {k : Nat → Option Out} {r : Out} (h : rnN fw nxl nx nnl n none k = some r) : ∃ c, k c = some r ∧ rho fw nxl nx nnl n = some c := by
  unfold rnN at h
  cases hn : Nat.ble (Nat.succ n) nxl with
  | true =>
    rw [hn] at h; dsimp only at h
    have h1 := ble_true hn
    cases hf : fw.get n with
    | none => rw [hf] at h; cases h
    | some c =>
      rw [hf] at h; dsimp only at h
      cases hc : Nat.ble (Nat.succ c) nx with
      | false => rw [hc] at h; cases h
      | true => rw [hc] at h; exact ⟨c, h, by unfold rho; rw [if_pos (by omega)]; exact rho0_some hf h1 (ble_true hc)⟩
  | false =>
    rw [hn] at h; dsimp only at h
    have h1 := ble_false hn
    cases hc : Nat.ble (Nat.succ n) nnl with
    | false => rw [hc] at h; cases h
    | true =>
      rw [hc] at h; dsimp only at h
      rw [forceNat_eq] at h
      exact ⟨_, h, by unfold rho; rw [if_neg (by omega), if_pos (by have := ble_true hc; omega)]; rfl⟩

theorem rnL_ok {m : SV → Option Out → (SV → Option Out) → Option Out} (hm : ∀ x k r, m x none k = some r → ∃ y, k y = some r ∧ RenV (rho fw nxl nx nnl) x y) : ∀ (xs : List SV) {k : List SV → Option Out} {r : Out}, rnL m xs none k = some r →
    ∃ ys, k ys = some r ∧ RenL (rho fw nxl nx nnl) xs ys
  | [], k, r, h => ⟨[], h, by simp only [RenL]⟩
  | x :: xs, k, r, h => by
    obtain ⟨y, h1, q1⟩ := hm x _ r h
    obtain ⟨ys, h2, q2⟩ := rnL_ok hm xs h1
    exact ⟨y :: ys, h2, by simp only [RenL]; exact ⟨y, ys, q1, q2, rfl⟩⟩

theorem rnV_ok : ∀ (fuel : Nat) (x : SV) (k : SV → Option Out) (r : Out), rnV fw nxl nx nnl fuel x none k = some r → ∃ y, k y = some r ∧ RenV (rho fw nxl nx nnl) x y
  | 0, x, k, r, h => by cases h
  | fuel + 1, x, k, r, h => by
    cases x <;> simp only [rnV] at h <;> first | (cases h; done) | (exact ⟨_, h, by simp only [RenV]⟩) | skip
    case ptr n off => obtain ⟨c, h1, q⟩ := rnN_ok h; exact ⟨_, h1, by simp only [RenV]; exact ⟨c, q, rfl⟩⟩
    case slice n off len cap => obtain ⟨c, h1, q⟩ := rnN_ok h; exact ⟨_, h1, by simp only [RenV]; exact ⟨c, q, rfl⟩⟩
    case map n => obtain ⟨c, h1, q⟩ := rnN_ok h; exact ⟨_, h1, by simp only [RenV]; exact ⟨c, q, rfl⟩⟩
    case func fn a b =>
      obtain ⟨a', h1, q1⟩ := rnL_ok (rnV_ok fuel) a h
      obtain ⟨b', h2, q2⟩ := rnL_ok (rnV_ok fuel) b h1
      exact ⟨_, h2, by simp only [RenV]; exact ⟨a', b', q1, q2, rfl⟩⟩
    case iface t v => obtain ⟨v', h1, q1⟩ := rnV_ok fuel v _ r h; exact ⟨_, h1, by simp only [RenV]; exact ⟨v', q1, rfl⟩⟩
    case agg cs => obtain ⟨v', h1, q1⟩ := rnL_ok (rnV_ok fuel) cs h; exact ⟨_, h1, by simp only [RenV]; exact ⟨v', q1, rfl⟩⟩
    case tuple cs => obtain ⟨v', h1, q1⟩ := rnL_ok (rnV_ok fuel) cs h; exact ⟨_, h1, by simp only [RenV]; exact ⟨v', q1, rfl⟩⟩

theorem rnE_ok : ∀ (es : List (Nat × SV × SV)) {k : List (Nat × SV × SV) → Option Out} {r : Out}, rnE fw nxl nx nnl es none k = some r → ∃ ys, k ys = some r ∧ RenE (rho fw nxl nx nnl) es ys
  | [], k, r, h => ⟨[], h, by simp only [RenE]⟩
  | (b, x, v) :: es, k, r, h => by
    simp only [rnE] at h
    obtain ⟨x', h1, q1⟩ := rnV_ok 8 x _ r h
    obtain ⟨v', h2, q2⟩ := rnV_ok 8 v _ r h1
    obtain ⟨ys, h3, q3⟩ := rnE_ok es h2
    exact ⟨_, h3, by simp only [RenE]; exact ⟨x', v', ys, q1, q2, q3, rfl⟩⟩

def RenO (ρ : Nat → Option Nat) : Option ABlk → Option ABlk → Prop
  | none, y => y = none
  | some b, y => ∃ b', y = some b' ∧ RenR ρ b b'
def RenD (ρ : Nat → Option Nat) : List (Nat × Option ABlk) → List (Nat × Option ABlk) → Prop
  | [], ys => ys = []
  | (n, b) :: ds, ys => ∃ c b' ys', ρ n = some c ∧ RenO ρ b b' ∧ RenD ρ ds ys' ∧ ys = (c, b') :: ys'

theorem rnB_ok {b : Option ABlk} {k : Option ABlk → Option Out} {r : Out} (h : rnB fw nxl nx nnl b none k = some r) : ∃ y, k y = some r ∧ RenO (rho fw nxl nx nnl) b y := by
  unfold rnB at h
  cases b with
  | none => exact ⟨none, h, rfl⟩
  | some b =>
    dsimp only at h
    cases b <;> dsimp only at h <;> first | (cases h; done) | skip
    case cells rw c e => obtain ⟨c', h1, q⟩ := rnL_ok (rnV_ok 8) c h; exact ⟨_, h1, _, rfl, .inl ⟨rw, c, c', e, rfl, rfl, q⟩⟩
    case map es clock => obtain ⟨es', h1, q⟩ := rnE_ok es h; exact ⟨_, h1, _, rfl, .inr ⟨es, es', clock, rfl, rfl, q⟩⟩
theorem rnD_ok : ∀ (ds : List (Nat × Option ABlk)) {k : List (Nat × Option ABlk) → Option Out} {r : Out}, rnD fw nxl nx nnl ds none k = some r → ∃ ys, k ys = some r ∧ RenD (rho fw nxl nx nnl) ds ys
  | [], k, r, h => ⟨[], h, rfl⟩
  | (n, b) :: ds, k, r, h => by
    simp only [rnD] at h
    obtain ⟨c, h1, q1⟩ := rnN_ok h
    obtain ⟨b', h2, q2⟩ := rnB_ok h1
    obtain ⟨ys, h3, q3⟩ := rnD_ok ds h2
    exact ⟨_, h3, c, b', ys, q1, q2, q3, rfl⟩

theorem RenD.names {ρ : Nat → Option Nat} : ∀ {ds ys : List (Nat × Option ABlk)}, RenD ρ ds ys → (∀ n b, (n, b) ∈ ds → ∃ c b', ρ n = some c ∧ (c, b') ∈ ys) ∧ (∀ c b', (c, b') ∈ ys → ∃ n b, ρ n = some c ∧ (n, b) ∈ ds)
  | [], _, h => by simp only [RenD] at h; subst h; exact ⟨fun n b hm => (by cases hm), fun n b hm => (by cases hm)⟩
  | (n, b) :: ds, _, ⟨c, b', ys, h1, h2, h3, rfl⟩ => by
    obtain ⟨i1, i2⟩ := h3.names
    refine ⟨fun m x hm => ?_, fun m x hm => ?_⟩
    · rcases List.mem_cons.mp hm with e | hm
      · cases e; exact ⟨c, b', h1, List.mem_cons_self⟩
      · obtain ⟨c', x', a, b⟩ := i1 m x hm; exact ⟨c', x', a, List.mem_cons_of_mem _ b⟩
    · rcases List.mem_cons.mp hm with e | hm
      · cases e; exact ⟨n, b, h1, List.mem_cons_self⟩
      · obtain ⟨c', x', a, b⟩ := i2 m x hm; exact ⟨c', x', a, List.mem_cons_of_mem _ b⟩
/-- what stands last at a name, and at its image -/
theorem RenD.last {ρ : Nat → Option Nat} (hinj : ∀ n m c, ρ n = some c → ρ m = some c → n = m) : ∀ {ds ys : List (Nat × Option ABlk)}, RenD ρ ds ys → ∀ {n c : Nat}, ρ n = some c →
    (lastA ds n = none ∧ lastA ys c = none) ∨ ∃ b b', lastA ds n = some b ∧ lastA ys c = some b' ∧ RenO ρ b b'
  | [], _, h, n, c, hn => by simp only [RenD] at h; subst h; exact .inl ⟨rfl, rfl⟩
  | (m, b) :: ds, _, ⟨c', b', ys, h1, h2, h3, rfl⟩, n, c, hn => by
    rcases h3.last hinj hn with ⟨e1, e2⟩ | ⟨x, x', e1, e2, e3⟩
    · simp only [lastA, e1, e2]
      by_cases e : n = m
      · subst e; rw [hn] at h1; cases h1
        exact .inr ⟨b, b', by simp, by simp, h2⟩
      · have : c ≠ c' := fun e' => by subst e'; exact e (hinj n m c hn h1)
        rw [if_neg e, if_neg this]; exact .inl ⟨rfl, rfl⟩
    · exact .inr ⟨x, x', by simp only [lastA, e1], by simp only [lastA, e2], e3⟩
theorem RenD.src {ρ : Nat → Option Nat} {ds ys : List (Nat × Option ABlk)} (h : RenD ρ ds ys) {c : Nat} (hc : lastA ys c ≠ none) : ∃ n, ρ n = some c := by
  obtain ⟨b, hb⟩ := lastA_mem hc
  obtain ⟨n, _, hn, _⟩ := h.names.2 c b hb
  exact ⟨n, hn⟩

theorem mem_dW {m : Nat} : ∀ {d : List (Nat × Option ABlk)}, m ∈ dW nx d ↔ (m < nx ∧ ∃ b, (m, b) ∈ d)
  | [] => by simp [dW]
  | (n, b) :: d => by
    simp only [dW]
    cases h : Nat.ble (Nat.succ n) nx with
    | true =>
      have hlt := ble_true h
      simp only [List.mem_cons, mem_dW]
      constructor
      · rintro (rfl | ⟨h1, x, h2⟩)
        · exact ⟨hlt, b, .inl rfl⟩
        · exact ⟨h1, x, .inr h2⟩
      · rintro ⟨h1, x, h2 | h2⟩
        · cases h2; exact .inl rfl
        · exact .inr ⟨h1, x, h2⟩
    | false =>
      have hge := ble_false h
      simp only [mem_dW, List.mem_cons]
      constructor
      · rintro ⟨h1, x, h2⟩; exact ⟨h1, x, .inr h2⟩
      · rintro ⟨h1, x, h2 | h2⟩
        · cases h2; omega
        · exact ⟨h1, x, h2⟩

theorem turnsOk_inv {t : Tr ABlk} : ∀ {d : List (Nat × Option ABlk)}, turnsOk t nxl nnl d = true → ∀ n b, (n, b) ∈ d → (n < nxl ∧ ∃ x, t.get n = some x ∧ rwB x = true) ∨ (nxl ≤ n ∧ n < nnl)
  | [], _, n, b, hm => by cases hm
  | (m, x) :: d, h, n, b, hm => by
    simp only [turnsOk] at h
    cases hm1 : Nat.ble (Nat.succ m) nxl with
    | true =>
      rw [hm1] at h; dsimp only at h
      cases hr : rwT t m with
      | false => rw [hr] at h; cases h
      | true =>
        rw [hr] at h; dsimp only at h
        rcases List.mem_cons.mp hm with e | hm
        · have e1 : n = m := congrArg Prod.fst e
          rw [e1]
          refine .inl ⟨ble_true hm1, ?_⟩
          unfold rwT at hr
          cases hg : t.get m with
          | none => rw [hg] at hr; cases hr
          | some y => rw [hg] at hr; refine ⟨y, rfl, ?_⟩; cases y <;> first | exact hr | rfl
        · exact turnsOk_inv h n b hm
    | false =>
      rw [hm1] at h; dsimp only at h
      cases hm2 : Nat.ble (Nat.succ m) nnl with
      | false => rw [hm2] at h; cases h
      | true =>
        rw [hm2] at h; dsimp only at h
        rcases List.mem_cons.mp hm with e | hm
        · have e1 : n = m := congrArg Prod.fst e
          rw [e1]
          have := ble_false hm1; have := ble_true hm2; exact .inr ⟨by omega, by omega⟩
        · exact turnsOk_inv h n b hm
end

/-- the fact's heap, as a trie -/
noncomputable def preTr (ps : List (Nat × ABlk)) (t : Tr ABlk) : Tr ABlk := match ps with
  | [] => t
  | (n, b) :: ps => preTr ps (t.put n (some b))
theorem preT_eq {β : Type} : ∀ (ps : List (Nat × ABlk)) (t : Tr ABlk) (k : Tr ABlk → β), preT ps t k = k (preTr ps t)
  | [], t, k => rfl
  | (n, b) :: ps, t, k => by simp only [preT, preTr]; rw [Tr.set_k, preT_eq ps]
theorem preTr_get : ∀ (ps : List (Nat × ABlk)) (t : Tr ABlk) (n : Nat) (b : ABlk), (preTr ps t).get n = some b → (n, b) ∈ ps ∨ t.get n = some b
  | [], t, n, b, h => .inr h
  | (m, x) :: ps, t, n, b, h => by
    simp only [preTr] at h
    rcases preTr_get ps _ n b h with h | h
    · exact .inl (List.mem_cons_of_mem _ h)
    · rw [Tr.get_put] at h
      split at h
      · rename_i e; rw [e]; cases h; exact .inl List.mem_cons_self
      · exact .inr h

/-- a fact holds -/
def FactOk (T : PT) (P : Program) (F : Fact) : Prop := ∀ E w vs, R P E (preTr F.pre .leaf).get w → (∀ n, F.nx ≤ n → E n = none) → GRel T E → VRelL E F.args vs →
  Calls P F.f vs.toArray w fun e w' => ∃ E' val, e = .returned val ∧ VRel E' F.v val ∧ Eff P E F.nx (preTr F.pre .leaf).get w F.d F.nn E' w'

theorem Calls.mono' {P : Program} {f : FuncId} {args : Array Value} {w : World} {R R' : Ending → World → Prop} (h : Calls P f args w R) (hr : ∀ e w', R e w' → R' e w') : Calls P f args w R' :=
  fun cs => let ⟨e, w', fr, a, b⟩ := h cs; ⟨e, w', fr, hr _ _ a, b⟩

section
variable {T : PT} {P : Program} {g : Nat} {fw0 bw0 : Tr Nat}
theorem applyFact_ok {F : Fact} (hF : FactOk T P F) (hchk : factChk g F = true) (hg0 : ∀ a n, T.gname a = some n → n < g ∧ fw0.get n = some n) (hi0 : InjT fw0 bw0) {args : List SV} {t : Tr ABlk} {nx : Nat} {out : Out}
    (h : applyFact g fw0 bw0 F args t nx = some out) : ∃ v d nn, Out.fin nx out = some (v, d, nn) ∧
      ∀ E w vs H, (∀ n b, t.get n = some b → H n = some b) → R P E H w → (∀ n, nx ≤ n → n < nn → E n = none) → GRel T E → VRelL E args vs →
        Calls P F.f vs.toArray w fun e w' => ∃ E' val, e = .returned val ∧ VRel E' v val ∧ Eff P E nx H w d nn E' w' := by
  obtain ⟨ff, fargs, pre, nxl, fv, fd, nnl⟩ := F
  simp only [factChk, preT_eq, Bool.and_eq_true] at hchk
  obtain ⟨⟨hturns, hgl⟩, hle⟩ := hchk
  have hgl := ble_true hgl; have hle := ble_true hle
  simp only [applyFact] at h
  cases hgn : Nat.ble g nx with
  | false => rw [hgn] at h; cases h
  | true =>
    rw [hgn] at h; dsimp only at h
    have hgn := ble_true hgn
    obtain ⟨fw1, bw1, h1, e1, i1, q1⟩ := mtL_ok (mtV_ok 8) fargs args hi0 h
    obtain ⟨fw, bw, h2, e2, hi, q2⟩ := mtPre_ok pre i1 h1
    have qargs := RenL.mono e2.rho _ _ q1
    obtain ⟨v', h3, qv⟩ := rnV_ok 8 fv _ _ h2
    obtain ⟨d', h4, qd⟩ := rnD_ok fd h3
    clear h h1 h2 h3
    cases h4
    refine ⟨v', d', nx + (nnl - nxl), rfl, fun E w vs H hsub hR hfree hg hvs => ?_⟩
    -- the fact's own environment
    let E1 : Env := fun n => (rho0 nxl nx fw n).bind E
    have hE1 : ∀ n c, rho0 nxl nx fw n = some c → E1 n = E c := fun n c hn => by simp only [E1, hn, Option.bind_some]
    have h0rho : ∀ n c, rho0 nxl nx fw n = some c → rho fw nxl nx nnl n = some c := fun n c hn => by
      unfold rho; rw [if_pos (rho_lt hn).1]; exact hn
    have inj : ∀ n m c, rho fw nxl nx nnl n = some c → rho fw nxl nx nnl m = some c → n = m := fun n m c a b => rho_inj hi a b
    have hpre : ∀ n b, (preTr pre .leaf).get n = some b → ∃ c b', rho0 nxl nx fw n = some c ∧ H c = some b' ∧ RenB (rho0 nxl nx fw) b b' := by
      intro n b hb
      rcases preTr_get pre .leaf n b hb with hm | hm
      · obtain ⟨c, b', a1, a2, a3⟩ := q2 n b hm
        exact ⟨c, b', a1, hsub c b' a2, a3⟩
      · rw [Tr.get_leaf] at hm; cases hm
    have hR1 : R P E1 (preTr pre .leaf).get w := by
      refine ⟨fun n b hb => ?_, fun n b m b' e e' h1 h2 h3 h4 h5 h6 => ?_⟩
      · obtain ⟨c, b', a1, a2, a3⟩ := hpre n b hb
        obtain ⟨e, he, hbr⟩ := hR.blk c b' a2
        exact ⟨e, by rw [hE1 n c a1]; exact he, a3.down hE1 hbr⟩
      · obtain ⟨c, x, a1, a2, a3⟩ := hpre n b h1
        obtain ⟨c', x', b1, b2, b3⟩ := hpre m b' h3
        rw [hE1 n c a1] at h5
        rw [hE1 m c' b1] at h6
        have hne : c' ≠ c := fun e => h4 (inj m n c' (h0rho _ _ b1) (by rw [e]; exact h0rho _ _ a1))
        exact hR.own c x c' x' e e' a2 (a3.rw h2) b2 hne h5 h6
    have hfree1 : ∀ n, nxl ≤ n → E1 n = none := by
      intro n hn
      have : rho0 nxl nx fw n = none := by
        cases hr : rho0 nxl nx fw n with
        | none => rfl
        | some c => have := (rho_lt hr).1; omega
      simp only [E1, this, Option.bind_none]
    have hg1 : GRel T E1 := by
      intro a n hn
      obtain ⟨hlt, hf⟩ := hg0 a n hn
      obtain ⟨e, he, r⟩ := hg a n hn
      have : rho0 nxl nx fw n = some n := rho0_some (e2 n n (e1 n n hf)) (by omega) (by omega)
      exact ⟨e, by rw [hE1 n n this]; exact he, r⟩
    have hvs1 : VRelL E1 fargs vs := (RenL.tr hE1 fargs args vs qargs).mpr hvs
    refine Calls.mono' (hF E1 w vs hR1 hfree1 hg1 hvs1) fun e w' hres => ?_
    obtain ⟨E1', val, rfl, hv, he⟩ := hres
    dsimp only at hv he
    let E' : Env := fun c => if nx ≤ c ∧ c < nx + (nnl - nxl) then E1' (nxl + (c - nx)) else E c
    have hEold : ∀ c, ¬ (nx ≤ c ∧ c < nx + (nnl - nxl)) → E' c = E c := fun c hc => if_neg hc
    have hEnew : ∀ c, (nx ≤ c ∧ c < nx + (nnl - nxl)) → E' c = E1' (nxl + (c - nx)) := fun c hc => if_pos hc
    have htr : ∀ n c, rho fw nxl nx nnl n = some c → E1' n = E' c := by
      intro n c hn
      rcases rho_cases hn with ⟨a1, a2, a3⟩ | ⟨a1, a2, a3⟩
      · rw [hEold c (by omega)]
        have hx := hE1 n c a3
        cases hx1 : E1 n with
        | some y => rw [he.ext n y hx1, ← hx, hx1]
        | none =>
          have : E1' n = none := by
            cases hy : E1' n with
            | none => rfl
            | some y =>
              rcases he.dom n (by rw [hy]; simp) with z | z
              · exact absurd hx1 z
              · omega
          rw [this, ← hx, hx1]
      · rw [hEnew c (by omega)]
        rw [show nxl + (c - nx) = n by omega]
    have hext : Ext E E' := by
      intro c x hc
      rw [hEold c (fun hr => by rw [hfree c hr.1 hr.2] at hc; cases hc)]
      exact hc
    -- a turned name of the fact's is a block of the caller's own
    have hturn : ∀ n ∈ dW nxl fd, ∃ c x', rho0 nxl nx fw n = some c ∧ H c = some x' ∧ rwB x' = true ∧ c ∈ dW nx d' := by
      intro n hn
      obtain ⟨hlt, b, hb⟩ := mem_dW.mp hn
      rcases turnsOk_inv hturns n b hb with ⟨_, x, hx, hrw⟩ | ⟨y, _⟩
      · obtain ⟨c, x', a1, a2, a3⟩ := hpre n x hx
        obtain ⟨c', b', c1, c2⟩ := qd.names.1 n b hb
        rw [h0rho n c a1] at c1; cases c1
        exact ⟨c, x', a1, a2, a3.rw hrw, mem_dW.mpr ⟨(rho_lt a1).2.1, b', c2⟩⟩
      · omega
    -- what lies at a name of the caller's behind the call
    have hdn : ∀ c y, lastA d' c = some y → ∃ n x, rho fw nxl nx nnl n = some c ∧ lastA fd n = some x ∧ RenO (rho fw nxl nx nnl) x y := by
      intro c y hy
      obtain ⟨n, hn⟩ := qd.src (c := c) (by rw [hy]; simp)
      rcases qd.last inj hn with ⟨_, z⟩ | ⟨x, y', z1, z2, z3⟩
      · rw [hy] at z; cases z
      · rw [hy] at z2; cases z2; exact ⟨n, x, hn, z1, z3⟩
    have hloc : ∀ n x, lastA fd n = some (some x) → applyF fd (preTr pre .leaf).get n = some x := fun n x hx => by rw [applyF_at, hx]
    -- where the blocks of turned and new names lie
    have hplace : ∀ c n x, rho fw nxl nx nnl n = some c → lastA fd n = some x → ∀ ent, E' c = some ent → (∃ y, H c = some y ∧ rwB y = true ∧ E c = some ent) ∨ w.heap.size ≤ ent.blk ∨
        (∃ c2 y, c2 ∈ dW nx d' ∧ H c2 = some y ∧ rwB y = true ∧ ∃ e2, E c2 = some e2 ∧ e2.blk = ent.blk) := by
      intro c n x hn hx ent hent
      obtain ⟨b, hb⟩ := lastA_mem (d := fd) (m := n) (by rw [hx]; simp)
      rcases turnsOk_inv hturns n b hb with ⟨a1, y, a2, a3⟩ | ⟨a1, a2⟩
      · obtain ⟨c2, y', b1, b2, b3⟩ := hpre n y a2
        rw [h0rho n c2 b1] at hn; cases hn
        have : ¬ (nx ≤ c ∧ c < nx + (nnl - nxl)) := by have := (rho_lt b1).2.1; omega
        rw [hEold c this] at hent
        exact .inl ⟨y', b2, b3.rw a3, hent⟩
      · have h1 : E1 n = none := hfree1 n a1
        rw [← htr n c hn] at hent
        rcases he.fresh n ent h1 hent with z | ⟨m, hm, em, hem, heq⟩
        · exact .inr (.inl z)
        · obtain ⟨c2, y', b1, b2, b3, b4⟩ := hturn m hm
          rw [hE1 m c2 b1] at hem
          exact .inr (.inr ⟨c2, y', b4, b2, b3, em, hem, heq⟩)
    refine ⟨E', val, rfl, (RenV.tr htr fv v' val qv).mp hv, ⟨hext, fun c hc => ?_, by omega, ⟨fun c b hb => ?_, fun c1 b1 c2 b2 x1 x2 k1 k2 k3 k4 k5 k6 => ?_⟩, ⟨he.fr.size, he.fr.os, he.fr.tape, he.fr.output, fun b hb hn' => ?_⟩, fun c x hc hx => ?_⟩⟩
    · by_cases hr : nx ≤ c ∧ c < nx + (nnl - nxl)
      · exact .inr hr
      · rw [hEold c hr] at hc; exact .inl hc
    · -- blocks
      rw [applyF_at] at hb
      cases hl : lastA d' c with
      | some y =>
        rw [hl] at hb; dsimp only at hb; subst hb
        obtain ⟨n, x, hn, hx, hro⟩ := hdn c _ hl
        cases x with
        | none => simp only [RenO] at hro; cases hro
        | some x =>
          obtain ⟨x', e, hrr⟩ := hro
          cases e
          obtain ⟨ent, hent, hbr⟩ := he.rel.blk n x (hloc n x hx)
          exact ⟨ent, by rw [← htr n c hn]; exact hent, hrr.up htr hbr⟩
      | none =>
        rw [hl] at hb; dsimp only at hb
        obtain ⟨ent, hent, hbr⟩ := hR.blk c b hb
        refine ⟨ent, hext c ent hent, hbr.keep hext (he.fr.keep ent.blk hbr.lt fun n hn e1 hen => ?_)⟩
        obtain ⟨c', y, a1, a2, a3, a4⟩ := hturn n hn
        rw [hE1 n c' a1] at hen
        have hne : c ≠ c' := by
          rintro rfl
          obtain ⟨_, bb, hbb⟩ := mem_dW.mp a4
          have hz : ∀ {d : List (Nat × Option ABlk)} {b}, (c, b) ∈ d → lastA d c ≠ none := by
            intro d
            induction d with
            | nil => intro b hm; cases hm
            | cons p d ih =>
              obtain ⟨m, z⟩ := p
              intro b hm
              simp only [lastA]
              cases hd : lastA d c with
              | some q => simp
              | none =>
                rcases List.mem_cons.mp hm with e | hm
                · cases e; simp
                · exact absurd hd (ih hm)
          exact hz hbb hl
        exact (hR.own c' y c b e1 ent a2 a3 hb hne hen hent).symm
    · -- no two names for one block
      have hlt2 : ∀ c b ent, H c = some b → E c = some ent → ent.blk < w.heap.size := by
        intro c b ent h1 h2
        obtain ⟨e, he1, hb⟩ := hR.blk c b h1
        rw [h2] at he1; cases he1; exact hb.lt
      have hold : ∀ c b ent, lastA d' c = none → H c = some b → E' c = some ent → E c = some ent := by
        intro c b ent _ h2 h3
        obtain ⟨e, he1, _⟩ := hR.blk c b h2
        rw [hext c e he1] at h3; cases h3; exact he1
      have hnotin : ∀ c c2, lastA d' c = none → c2 ∈ dW nx d' → c ≠ c2 := by
        rintro c c2 hl hm rfl
        obtain ⟨_, bb, hbb⟩ := mem_dW.mp hm
        have hz : ∀ {d : List (Nat × Option ABlk)} {b}, (c, b) ∈ d → lastA d c ≠ none := by
          intro d
          induction d with
          | nil => intro b hm; cases hm
          | cons p d ih =>
            obtain ⟨m, z⟩ := p
            intro b hm
            simp only [lastA]
            cases hd : lastA d c with
            | some q => simp
            | none =>
              rcases List.mem_cons.mp hm with e | hm
              · cases e; simp
              · exact absurd hd (ih hm)
        exact hz hbb hl
      rw [applyF_at] at k1 k3
      cases hl1 : lastA d' c1 with
      | some y1 =>
        rw [hl1] at k1; dsimp only at k1; subst k1
        obtain ⟨n1, z1, hn1, hz1, hro1⟩ := hdn c1 _ hl1
        cases z1 with
        | none => simp only [RenO] at hro1; cases hro1
        | some z1 =>
          obtain ⟨zz, e, hrr1⟩ := hro1; cases e
          cases hl2 : lastA d' c2 with
          | some y2 =>
            rw [hl2] at k3; dsimp only at k3; subst k3
            obtain ⟨n2, z2, hn2, hz2, hro2⟩ := hdn c2 _ hl2
            cases z2 with
            | none => simp only [RenO] at hro2; cases hro2
            | some z2 =>
              have hne : n2 ≠ n1 := by rintro rfl; rw [hn1] at hn2; cases hn2; exact k4 rfl
              exact he.rel.own n1 z1 n2 z2 x1 x2 (hloc n1 z1 hz1) (by rw [← hrr1.rw]; exact k2) (hloc n2 z2 hz2) hne (by rw [htr n1 c1 hn1]; exact k5) (by rw [htr n2 c2 hn2]; exact k6)
          | none =>
            rw [hl2] at k3; dsimp only at k3
            have k6' := hold c2 b2 x2 hl2 k3 k6
            rcases hplace c1 n1 _ hn1 hz1 x1 k5 with ⟨y, p1, p2, p3⟩ | p | ⟨c3, y, p1, p2, p3, e3, p4, p5⟩
            · exact hR.own c1 y c2 b2 x1 x2 p1 p2 k3 k4 p3 k6'
            · have := hlt2 c2 b2 x2 k3 k6'; omega
            · rw [← p5]; exact hR.own c3 y c2 b2 e3 x2 p2 p3 k3 (hnotin c2 c3 hl2 p1) p4 k6'
      | none =>
        rw [hl1] at k1; dsimp only at k1
        have k5' := hold c1 b1 x1 hl1 k1 k5
        cases hl2 : lastA d' c2 with
        | some y2 =>
          rw [hl2] at k3; dsimp only at k3; subst k3
          obtain ⟨n2, z2, hn2, hz2, hro2⟩ := hdn c2 _ hl2
          rcases hplace c2 n2 _ hn2 hz2 x2 k6 with ⟨y, p1, p2, p3⟩ | p | ⟨c3, y, p1, p2, p3, e3, p4, p5⟩
          · exact hR.own c1 b1 c2 y x1 x2 k1 k2 p1 k4 k5' p3
          · have := hlt2 c1 b1 x1 k1 k5'; omega
          · rw [← p5]; exact hR.own c1 b1 c3 y x1 e3 k1 k2 p2 (fun e => hnotin c1 c3 hl1 p1 e.symm) k5' p4
        | none =>
          rw [hl2] at k3; dsimp only at k3
          exact hR.own c1 b1 c2 b2 x1 x2 k1 k2 k3 k4 k5' (hold c2 b2 x2 hl2 k3 k6)
    · -- what is kept
      refine he.fr.keep b hb fun n hn e1 hen => ?_
      obtain ⟨c', y, a1, a2, a3, a4⟩ := hturn n hn
      rw [hE1 n c' a1] at hen
      exact hn' c' a4 e1 hen
    · -- new names
      by_cases hr : nx ≤ c ∧ c < nx + (nnl - nxl)
      · rw [hEnew c hr] at hx
        have h1 : E1 (nxl + (c - nx)) = none := hfree1 _ (by omega)
        rcases he.fresh _ x h1 hx with z | ⟨m, hm, em, hem, heq⟩
        · exact .inl z
        · obtain ⟨c2, y', b1, b2, b3, b4⟩ := hturn m hm
          rw [hE1 m c2 b1] at hem
          exact .inr ⟨c2, b4, em, hem, heq⟩
      · rw [hEold c hr, hc] at hx; cases hx

theorem firstFact_ok {l : List Fact} {f : FuncId} (hl : ∀ F ∈ l, FactOk T P F ∧ factChk g F = true) (hg0 : ∀ a n, T.gname a = some n → n < g ∧ fw0.get n = some n) (hi0 : InjT fw0 bw0) {args : List SV} {t : Tr ABlk} {nx : Nat} {out : Out}
    (h : firstFact g fw0 bw0 f args t nx l = some out) : ∃ v d nn, Out.fin nx out = some (v, d, nn) ∧
      ∀ E w vs H, (∀ n b, t.get n = some b → H n = some b) → R P E H w → (∀ n, nx ≤ n → n < nn → E n = none) → GRel T E → VRelL E args vs →
        Calls P f vs.toArray w fun e w' => ∃ E' val, e = .returned val ∧ VRel E' v val ∧ Eff P E nx H w d nn E' w' := by
  induction l with
  | nil => cases h
  | cons F l ih =>
    simp only [firstFact] at h
    have ih := ih fun F hF => hl F (List.mem_cons_of_mem _ hF)
    cases hf : Nat.beq F.f f with
    | false => rw [hf] at h; exact ih h
    | true =>
      rw [hf] at h; dsimp only at h
      cases ha : applyFact g fw0 bw0 F args t nx with
      | some o =>
        rw [ha] at h; cases h
        obtain ⟨h1, h2⟩ := hl F List.mem_cons_self
        rw [← beq_true hf]
        exact applyFact_ok h1 h2 hg0 hi0 ha
      | none => rw [ha] at h; exact ih h

/-- every entry of a trie -/
def TrAll {α : Type} (p : α → Prop) : Tr α → Prop
  | .leaf => True
  | .node l v r => TrAll p l ∧ (match v with | some x => p x | none => True) ∧ TrAll p r
theorem TrAll.get {α : Type} {p : α → Prop} : ∀ {t : Tr α}, TrAll p t → ∀ {n : Nat} {x : α}, t.get n = some x → p x
  | .leaf, _, n, x, h => by rw [Tr.get_leaf] at h; cases h
  | .node l v r, ⟨h1, h2, h3⟩, n, x, h => by
    cases n with
    | zero => rw [Tr.get_node_zero] at h; rw [h] at h2; exact h2
    | succ n =>
      rw [Tr.get_node_succ] at h
      split at h
      · exact h1.get h
      · exact h3.get h

/-- a fact that holds and is well formed -/
def FOk (T : PT) (P : Program) (g : Nat) (F : Fact) : Prop := FactOk T P F ∧ factChk g F = true
theorem factsOf_ok {tb : Tr (List Fact)} (htb : TrAll (fun l => ∀ F ∈ l, FOk T P g F) tb) (hg0 : ∀ a n, T.gname a = some n → n < g ∧ fw0.get n = some n) (hi0 : InjT fw0 bw0) :
    FactsOk T P (factsOf g fw0 bw0 tb) := by
  intro f args t nx outs h
  unfold factsOf at h
  cases hf : tb.get f with
  | none => rw [hf] at h; cases h
  | some l =>
    rw [hf] at h; dsimp only at h
    cases hff : firstFact g fw0 bw0 f args t nx l with
    | none => rw [hff] at h; cases h
    | some o =>
      rw [hff] at h; cases h
      obtain ⟨v, d, nn, hfin, hsem⟩ := firstFact_ok (htb.get hf) hg0 hi0 hff
      intro E w vs H hsub hR hfree hg hvs
      refine Calls.mono' (hsem E w vs H hsub hR (hfree o List.mem_cons_self v d nn hfin) hg hvs) fun e w' hr => ?_
      exact ⟨o, List.mem_cons_self, v, d, nn, hfin, hr⟩
end
end Go.Sx

namespace Go.Sx
open Go
set_option linter.unusedVariables false
set_option linter.unusedSimpArgs false

theorem eqL_inv {m : SV → SV → Bool} (hm : ∀ x y, m x y = true → x = y) : ∀ {xs ys : List SV}, eqL m xs ys = true → xs = ys
  | [], [], _ => rfl
  | [], _ :: _, h => by cases h
  | _ :: _, [], h => by cases h
  | x :: xs, y :: ys, h => by
    simp only [eqL] at h
    cases hxy : m x y with
    | false => rw [hxy] at h; cases h
    | true => rw [hxy] at h; rw [hm x y hxy, eqL_inv hm h]
theorem eqV_inv : ∀ (fuel : Nat) (x y : SV), eqV fuel x y = true → x = y
  | 0, x, y, h => by cases h
  | fuel + 1, x, y, h => by
    cases x <;> cases y <;> simp only [eqV, Bool.and_eq_true] at h <;> first | (cases h; done) | rfl | skip
    case bool.bool a b => rw [eqBool_eq] at h; have : a = b := by simpa using h
                          rw [this]
    case int.int k a k' b =>
      obtain ⟨h1, h2⟩ := h
      rw [intEq_eq] at h2
      have : a = b := by simpa using h2
      rw [this, kindEq_inv h1]
    case str.str a b => rw [natsEq_eq] at h; have : a = b := by simpa using h
                        rw [this]
    case ptr.ptr n o n' o' => rw [beq_true h.1, beq_true h.2]
    case slice.slice n o l c n' o' l' c' => rw [beq_true h.1.1.1, beq_true h.1.1.2, beq_true h.1.2, capEq_inv h.2]
    case map.map n n' => rw [beq_true h]
    case func.func fn a b fn' a' b' => rw [fnEq_inv h.1.1, eqL_inv (eqV_inv fuel) h.1.2, eqL_inv (eqV_inv fuel) h.2]
    case iface.iface t v t' v' =>
      split at h
      · rename_i e; rw [beq_true e, eqV_inv fuel v v' h]
      · cases h
    case agg.agg a b => rw [eqL_inv (eqV_inv fuel) h]
    case tuple.tuple a b => rw [eqL_inv (eqV_inv fuel) h]
theorem eqE_inv : ∀ {xs ys : List (Nat × SV × SV)}, eqE xs ys = true → xs = ys
  | [], [], _ => rfl
  | [], _ :: _, h => by cases h
  | (_, _, _) :: _, [], h => by cases h
  | (b, x, v) :: xs, (b', x', v') :: ys, h => by
    simp only [eqE] at h
    split at h
    · rename_i e
      rw [Bool.and_eq_true, Bool.and_eq_true] at e
      rw [beq_true e.1.1, eqV_inv _ _ _ e.1.2, eqV_inv _ _ _ e.2, eqE_inv h]
    · cases h
theorem eqB_inv {a b : Option ABlk} (h : eqB a b = true) : a = b := by
  cases a with
  | none => cases b with
    | none => rfl
    | some b => cases h
  | some a => cases b with
    | none => cases h
    | some b =>
      cases a <;> cases b <;> simp only [eqB, Bool.and_eq_true] at h <;> first | (cases h; done) | skip
      case cells.cells rw c e rw' c' e' =>
        rw [eqBool_eq] at h
        have : rw = rw' := by simpa using h.1.1
        rw [this, beq_true h.1.2, eqL_inv (eqV_inv 8) h.2]
      case map.map es cl es' cl' => rw [beq_true h.1, eqE_inv h.2]
theorem dIs_inv {t : Tr ABlk} : ∀ {d : List (Nat × Option ABlk)}, dIs t d = true → ∀ n b, (n, b) ∈ d → b = t.get n
  | [], _, n, b, hm => by cases hm
  | (m, x) :: d, h, n, b, hm => by
    simp only [dIs] at h
    cases he : eqB x (t.get m) with
    | false => rw [he] at h; cases h
    | true =>
      rw [he] at h
      rcases List.mem_cons.mp hm with e | hm
      · have e1 : n = m := congrArg Prod.fst e
        have e2 : b = x := congrArg Prod.snd e
        rw [e1, e2]; exact eqB_inv he
      · exact dIs_inv h n b hm
theorem inD_inv {m : Nat} : ∀ {d : List (Nat × Option ABlk)}, inD m d = true → ∃ b, (m, b) ∈ d
  | [], h => by cases h
  | (n, x) :: d, h => by
    simp only [inD] at h
    cases he : Nat.beq n m with
    | true => have := beq_true he; subst this; exact ⟨x, List.mem_cons_self⟩
    | false => rw [he] at h; obtain ⟨b, hb⟩ := inD_inv h; exact ⟨b, List.mem_cons_of_mem _ hb⟩
theorem wIn_inv {nx : Nat} {d : List (Nat × Option ABlk)} : ∀ {W : List Nat}, wIn nx d W = true → ∀ m ∈ W, m < nx → ∃ b, (m, b) ∈ d
  | [], _, m, hm, _ => by cases hm
  | x :: xs, h, m, hm, hlt => by
    simp only [wIn] at h
    cases hx : Nat.ble (Nat.succ x) nx with
    | true =>
      rw [hx] at h; dsimp only at h
      cases hd : inD x d with
      | false => rw [hd] at h; cases h
      | true =>
        rw [hd] at h
        rcases List.mem_cons.mp hm with rfl | hm
        · exact inD_inv hd
        · exact wIn_inv h m hm hlt
    | false =>
      rw [hx] at h; dsimp only at h
      rcases List.mem_cons.mp hm with rfl | hm
      · exact absurd hlt (ble_false hx)
      · exact wIn_inv h m hm hlt
theorem lastA_ne {m : Nat} : ∀ {d : List (Nat × Option ABlk)} {b : Option ABlk}, (m, b) ∈ d → lastA d m ≠ none
  | (n, x) :: d, b, h => by
    simp only [lastA]
    cases hd : lastA d m with
    | some q => simp
    | none =>
      rcases List.mem_cons.mp h with e | h
      · cases e; simp
      · exact absurd hd (lastA_ne h)
theorem lastA_in {m : Nat} {x : Option ABlk} : ∀ {d : List (Nat × Option ABlk)}, lastA d m = some x → (m, x) ∈ d
  | [], h => by cases h
  | (n, y) :: d, h => by
    simp only [lastA] at h
    cases hd : lastA d m with
    | some q => rw [hd] at h; cases h; exact List.mem_cons_of_mem _ (lastA_in hd)
    | none =>
      rw [hd] at h; dsimp only at h
      split at h
      · rename_i e; cases h; rw [e]; exact List.mem_cons_self
      · cases h

section
variable {T : PT} {P : Program}
/-- a fact that has been run -/
theorem factRun_ok (hT : TOk T P) {facts : Facts} (hF : FactsOk T P facts) {g k : Nat} {F : Fact} (hchk : factChk g F = true) (h : factRun T facts k F = true) : FactOk T P F := by
  obtain ⟨ff, fargs, pre, nxl, fv, fd, nnl⟩ := F
  simp only [factChk, preT_eq, Bool.and_eq_true] at hchk
  obtain ⟨⟨hturns, hgl⟩, hle⟩ := hchk
  have hle := ble_true hle
  simp only [factRun, preT_eq] at h
  intro E w vs hR hfree hg hvs
  refine Calls.mono' (runC_sound hT hF h hR hfree hg hvs) fun e w' hres => ?_
  obtain ⟨v, t', nx', W, E', val, he, hv, hm, hfin⟩ := hres
  simp only [Bool.and_eq_true] at hfin
  obtain ⟨⟨⟨⟨f1, f2⟩, f3⟩, f4⟩, f5⟩ := hfin
  have f1 := eqV_inv _ _ _ f1
  have f4 := ble_true f4
  subst f1
  have hd := dIs_inv f2
  have hs := hm.since
  dsimp only
  -- what was there and turned is told, and was to be written
  have hW : ∀ m ∈ W, ∀ e, E m = some e → m ∈ dW nxl fd ∧ ∃ x, (preTr pre .leaf).get m = some x ∧ rwB x = true := by
    intro m hmW e hme
    have hlt : m < nxl := by
      rcases Nat.lt_or_ge m nxl with y | y
      · exact y
      · rw [hfree m y] at hme; cases hme
    obtain ⟨b, hb⟩ := wIn_inv f5 m hmW hlt
    rcases turnsOk_inv hturns m b hb with ⟨_, x, a1, a2⟩ | ⟨a1, _⟩
    · exact ⟨mem_dW.mpr ⟨hlt, b, hb⟩, x, a1, a2⟩
    · omega
  have hat : ∀ n x, lastA fd n = some x → x = t'.get n := fun n x hx => hd n x (lastA_in hx)
  have hkeep : ∀ n b, lastA fd n = none → (preTr pre .leaf).get n = some b → ∃ e, E n = some e ∧ E' n = some e ∧ BRel P E e b w ∧ w'.heap[e.blk]? = w.heap[e.blk]? := by
    intro n b hl hb
    obtain ⟨e, hee, hbr⟩ := hR.blk n b hb
    refine ⟨e, hee, hs.ext n e hee, hbr, hs.fr.keep e.blk hbr.lt fun m hmW e' hme => ?_⟩
    obtain ⟨h1, x, h2, h3⟩ := hW m hmW e' hme
    have hne : n ≠ m := by
      rintro rfl
      obtain ⟨_, bb, hbb⟩ := mem_dW.mp h1
      exact lastA_ne hbb hl
    exact (hR.own m x n b e' e h2 h3 hb hne hme hee).symm
  -- where turned and new blocks lie
  have hplace : ∀ n e, E' n = some e → (E n = some e) ∨ (E n = none ∧ (w.heap.size ≤ e.blk ∨ ∃ m x, m ∈ dW nxl fd ∧ (preTr pre .leaf).get m = some x ∧ rwB x = true ∧ ∃ e2, E m = some e2 ∧ e2.blk = e.blk)) := by
    intro n e hn
    cases hE : E n with
    | some e0 => left; have := hs.ext n e0 hE; rw [hn] at this; exact this.symm ▸ rfl
    | none =>
      right
      refine ⟨rfl, ?_⟩
      rcases hs.fresh n e hE hn with z | ⟨m, hmW, e2, hme, heq⟩
      · exact .inl z
      · obtain ⟨h1, x, h2, h3⟩ := hW m hmW e2 hme
        exact .inr ⟨m, x, h1, h2, h3, e2, hme, heq⟩
  have holdE : ∀ n b, (preTr pre .leaf).get n = some b → ∀ e, E' n = some e → E n = some e := by
    intro n b hb e hn
    obtain ⟨e0, he0, _⟩ := hR.blk n b hb
    have := hs.ext n e0 he0
    rw [hn] at this; rw [this]; exact he0
  have hlt2 : ∀ n b e, (preTr pre .leaf).get n = some b → E n = some e → e.blk < w.heap.size := by
    intro n b e h1 h2
    obtain ⟨e0, he0, hb⟩ := hR.blk n b h1
    rw [h2] at he0; cases he0; exact hb.lt
  -- a turned name's block against one that stays
  have hvs2 : ∀ n1 x1 n2 b2 e1 e2, lastA fd n1 = some x1 → E' n1 = some e1 → lastA fd n2 = none → (preTr pre .leaf).get n2 = some b2 → E' n2 = some e2 → e1.blk ≠ e2.blk := by
    intro n1 x1 n2 b2 e1 e2 h1 h2 h3 h4 h5
    have h5' := holdE n2 b2 h4 e2 h5
    have hne12 : n2 ≠ n1 := by rintro rfl; rw [h1] at h3; cases h3
    rcases hplace n1 e1 h2 with z | ⟨_, z⟩
    · have hlt : n1 < nxl := by
        rcases Nat.lt_or_ge n1 nxl with y | y
        · exact y
        · rw [hfree n1 y] at z; cases z
      rcases turnsOk_inv hturns n1 x1 (lastA_in h1) with ⟨_, x, a1, a2⟩ | ⟨a1, _⟩
      · exact (hR.own n1 x n2 b2 e1 e2 a1 a2 h4 hne12 z h5').symm
      · omega
    · rcases z with z | ⟨m, x, p1, p2, p3, e3, p4, p5⟩
      · have := hlt2 n2 b2 e2 h4 h5'; omega
      · have hne : n2 ≠ m := by
          rintro rfl
          obtain ⟨_, bb, hbb⟩ := mem_dW.mp p1
          exact lastA_ne hbb h3
        rw [← p5]
        exact (hR.own m x n2 b2 e3 e2 p2 p3 h4 hne p4 h5').symm
  refine ⟨E', val, he, hv, ⟨hs.ext, fun n hn => ?_, hle, ⟨fun n b hb => ?_, fun n1 b1 n2 b2 e1 e2 k1 k2 k3 k4 k5 k6 => ?_⟩, ⟨hs.fr.size, hs.fr.os, hs.fr.tape, hs.fr.output, fun b hb hn => ?_⟩, fun n e h1 h2 => ?_⟩⟩
  · cases hE : E n with
    | some e => exact .inl (by simp)
    | none =>
      refine .inr ⟨?_, ?_⟩
      · rcases Nat.lt_or_ge n nxl with y | y
        · exact (hm.low n hn).resolve_left (by rw [hE]; simp)
        · exact y
      · rcases Nat.lt_or_ge n nnl with y | y
        · exact y
        · exact absurd (hm.free n (Nat.le_trans f4 y)) hn
  · rw [applyF_at] at hb
    cases hl : lastA fd n with
    | some x =>
      rw [hl] at hb; dsimp only at hb; subst hb
      exact hm.rel.blk n b (hat n _ hl).symm
    | none =>
      rw [hl] at hb; dsimp only at hb
      obtain ⟨e, h1, h2, h3, h4⟩ := hkeep n b hl hb
      exact ⟨e, h2, h3.keep hs.ext h4⟩
  · rw [applyF_at] at k1 k3
    cases hl1 : lastA fd n1 with
    | some x1 =>
      rw [hl1] at k1; dsimp only at k1; subst k1
      cases hl2 : lastA fd n2 with
      | some x2 =>
        rw [hl2] at k3; dsimp only at k3; subst k3
        exact hm.rel.own n1 b1 n2 b2 e1 e2 (hat n1 _ hl1).symm k2 (hat n2 _ hl2).symm k4 k5 k6
      | none =>
        rw [hl2] at k3; dsimp only at k3
        exact (hvs2 n1 _ n2 b2 e1 e2 hl1 k5 hl2 k3 k6).symm
    | none =>
      rw [hl1] at k1; dsimp only at k1
      cases hl2 : lastA fd n2 with
      | some x2 =>
        rw [hl2] at k3; dsimp only at k3; subst k3
        exact hvs2 n2 _ n1 b1 e2 e1 hl2 k6 hl1 k1 k5
      | none =>
        rw [hl2] at k3; dsimp only at k3
        exact hR.own n1 b1 n2 b2 e1 e2 k1 k2 k3 k4 (holdE n1 b1 k1 e1 k5) (holdE n2 b2 k3 e2 k6)
  · exact hs.fr.keep b hb fun m hmW e hme => hn m (hW m hmW e hme).1 e hme
  · rcases hplace n e h2 with z | ⟨_, z⟩
    · rw [h1] at z; cases z
    · rcases z with z | ⟨m, x, p1, p2, p3, e3, p4, p5⟩
      · exact .inl z
      · exact .inr ⟨m, p1, e3, p4, p5⟩
theorem fok (hT : TOk T P) {facts : Facts} (hF : FactsOk T P facts) {g k : Nat} {F : Fact} (h : factRun T facts k F = true) (hchk : factChk g F = true) : FOk T P g F := ⟨factRun_ok hT hF hchk h, hchk⟩
end
end Go.Sx

namespace Go.Sx
open Go
set_option linter.unusedVariables false
set_option linter.unusedSimpArgs false

def optB {α : Type} (p : Nat → α → Bool) (b : Nat) (v : Option α) : Bool := match v with | some x => p b x | none => true
/-- every entry of a trie, with its place: a * n + b -/
noncomputable def allT {α : Type} (p : Nat → α → Bool) (t : Tr α) : Nat → Nat → Bool :=
  Tr.rec (motive := fun _ => Nat → Nat → Bool) (fun _ _ => true)
    (fun _ v _ ihl ihr a b => match optB p b v with
      | false => false
      | true => (match ihl (Nat.mul 2 a) (Nat.add a b) with | false => false | true => ihr (Nat.mul 2 a) (Nat.add (Nat.mul 2 a) b))) t
theorem allT_get {α : Type} {p : Nat → α → Bool} : ∀ (t : Tr α) {a b : Nat}, allT p t a b = true → ∀ {n : Nat} {x : α}, t.get n = some x → p (a * n + b) x = true
  | .leaf, a, b, _, n, x, h => by rw [Tr.get_leaf] at h; cases h
  | .node l v r, a, b, hp, n, x, h => by
    have hp' : (match optB p b v with
      | false => false
      | true => (match allT p l (Nat.mul 2 a) (Nat.add a b) with | false => false | true => allT p r (Nat.mul 2 a) (Nat.add (Nat.mul 2 a) b))) = true := hp
    cases h1 : optB p b v with
    | false => rw [h1] at hp'; cases hp'
    | true =>
      rw [h1] at hp'; dsimp only at hp'
      cases h2 : allT p l (Nat.mul 2 a) (Nat.add a b) with
      | false => rw [h2] at hp'; cases hp'
      | true =>
        rw [h2] at hp'; dsimp only at hp'
        cases n with
        | zero =>
          rw [Tr.get_node_zero] at h; subst h
          simpa [optB] using h1
        | succ n =>
          rw [Tr.get_node_succ] at h
          split at h
          · rename_i e
            have := allT_get l h2 h
            have e2 : Nat.mul 2 a * (n / 2) + Nat.add a b = a * (n + 1) + b := by
              show 2 * a * (n / 2) + (a + b) = _
              have hn : n = 2 * (n / 2) := by omega
              have : 2 * a * (n / 2) = a * n := by rw [Nat.mul_comm 2 a, Nat.mul_assoc, ← hn]
              rw [this, Nat.mul_add]; omega
            rwa [e2] at this
          · rename_i e
            have := allT_get r hp' h
            have e2 : Nat.mul 2 a * (n / 2) + Nat.add (Nat.mul 2 a) b = a * (n + 1) + b := by
              show 2 * a * (n / 2) + (2 * a + b) = _
              have hn : n = 2 * (n / 2) + 1 := by omega
              have e3 : a * n = 2 * a * (n / 2) + a := by
                calc a * n = a * (2 * (n / 2) + 1) := by rw [← hn]
                _ = 2 * a * (n / 2) + a := by rw [Nat.mul_add, Nat.mul_one, ← Nat.mul_assoc, Nat.mul_comm a 2]
              rw [Nat.mul_add, e3]; omega
            rwa [e2] at this
theorem allT_get1 {α : Type} {p : Nat → α → Bool} {t : Tr α} (h : allT p t 1 0 = true) {n : Nat} {x : α} (hx : t.get n = some x) : p n x = true := by
  have := allT_get t h hx
  simpa using this
end Go.Sx

namespace Go.Sx
open Go
set_option linter.unusedVariables false
set_option linter.unusedSimpArgs false

/-! ## The types' table, held against the program -/
noncomputable section
def chkFs : List (Nat × Nat) → List Field → Bool
  | [], l => (match l with | [] => true | _ :: _ => false)
  | (o, t) :: fs, l => (match l with
    | [] => false
    | f :: l => (match Nat.beq o f.offset && Nat.beq t f.type with | true => chkFs fs l | false => false))
def chkK (k : TK) (d : TypeDesc) : Bool := match k with
  | .bool => (match d with | .bool => true | _ => false)
  | .int k => (match d with | .int k' => kindEq k k' | _ => false)
  | .str => (match d with | .string => true | _ => false)
  | .ptr e => (match d with | .pointer e' => Nat.beq e e' | _ => false)
  | .slice e => (match d with | .slice e' => Nat.beq e e' | _ => false)
  | .array n e => (match d with | .array n' e' => Nat.beq n n' && Nat.beq e e' | _ => false)
  | .struct fs => (match d with | .struct l => chkFs fs l.toList | _ => false)
  | .map k e => (match d with | .map k' e' => Nat.beq k k' && Nat.beq e e' | _ => false)
  | .func => (match d with | .func _ _ _ => true | _ => false)
  | .iface n => (match d with | .interface ms => Nat.beq ms.size n | _ => false)
  | .other => (match d with | .float _ => true | .complex _ => true | .unsafePointer => true | .chan _ _ => true | .tuple _ => true | .invalid => true | .named _ _ => true | _ => false)
theorem chkFs_inv : ∀ {fs : List (Nat × Nat)} {l : List Field}, chkFs fs l = true → fs = l.map fun f => (f.offset, f.type)
  | [], [], _ => rfl
  | [], _ :: _, h => by cases h
  | _ :: _, [], h => by simp [chkFs] at h
  | (o, t) :: fs, f :: l, h => by
    simp only [chkFs] at h
    split at h
    · rename_i e
      rw [Bool.and_eq_true] at e
      rw [beq_true e.1, beq_true e.2, chkFs_inv h]; rfl
    · cases h
theorem chkK_inv {k : TK} {d : TypeDesc} (h : chkK k d = true) : KOk k d := by
  cases k <;> cases d <;> simp only [chkK, Bool.and_eq_true] at h <;> first | (cases h; done) | skip
  all_goals simp only [KOk]
  case int.int => rw [kindEq_inv h]
  case ptr.pointer => rw [beq_true h]
  case slice.slice => rw [beq_true h]
  case array.array => rw [beq_true h.1, beq_true h.2]
  case struct.struct => exact ⟨_, rfl, chkFs_inv h⟩
  case map.map => rw [beq_true h.1, beq_true h.2]
  case func.func => exact ⟨_, _, _, rfl⟩
  case iface.interface => exact ⟨_, rfl, beq_true h⟩

def chkZ1 (zero : List SV) (z : Value) : Bool := match zero with | [] => false | x :: r => (match r with | [] => eqV 8 x (ofValue 6 z) | _ :: _ => false)
def chkZ (agg : Bool) (zero : List SV) (z : Value) : Bool := match agg with
  | true => (match z with | .agg cs => eqL (eqV 8) zero (cs.toList.map (ofValue 6)) | _ => false)
  | false => (match z with
    | .agg _ => false
    | z => chkZ1 zero z)
theorem chkZ_inv {agg : Bool} {zero : List SV} {z : Value} (h : chkZ agg zero z = true) : ZOk agg zero z := by
  unfold chkZ at h
  cases agg with
  | true =>
    cases z <;> dsimp only at h <;> first | (cases h; done) | skip
    rename_i cs
    have := eqL_inv (eqV_inv 8) h
    refine (if_pos rfl).mpr ⟨cs, rfl, fun E => ?_⟩
    rw [this]
    have := VRelL.map (E := E) (f := ofValue 6) (g := id) cs.toList fun x _ => ofValue_rel 6 x
    simpa using this
  | false =>
    have key : ∀ z : Value, (∀ cs, z ≠ .agg cs) → chkZ1 zero z = true → ZOk false zero z := by
      intro z hz hk
      unfold chkZ1 at hk
      cases zero with
      | nil => cases hk
      | cons x r =>
        cases r with
        | cons a b => cases hk
        | nil =>
          have hx := eqV_inv 8 _ _ hk
          refine (if_neg (by simp)).mpr ⟨x, rfl, ?_, hz, fun E => ?_⟩
          · cases z <;> first | rfl | exact absurd rfl (hz _)
          · rw [hx]; exact ofValue_rel 6 z
    cases z <;> dsimp only at h <;> first | (cases h; done) | exact key _ (by simp) h

def chkM (i : TypeInfo) : List (String × FuncId × Bool) → Bool
  | [] => true
  | (n, f, p) :: ms => (match i.methods.find? (·.name == n) with
    | none => false
    | some m => (match m.path.isEmpty && (match m.func with | some q => (match q with | (g, b) => Nat.beq g f && eqBool b p) | none => false) with
      | true => chkM i ms
      | false => false))
theorem chkM_inv {i : TypeInfo} : ∀ {ms : List (String × FuncId × Bool)}, chkM i ms = true → ∀ name f p, findM name ms = some (f, p) → ∃ m, i.methods.find? (·.name == name) = some m ∧ m.path = #[] ∧ m.func = some (f, p)
  | [], _, name, f, p, hf => by cases hf
  | (n, g, b) :: ms, h, name, f, p, hf => by
    simp only [chkM] at h
    cases hm : i.methods.find? (·.name == n) with
    | none => rw [hm] at h; cases h
    | some m =>
      rw [hm] at h; dsimp only at h
      split at h
      · rename_i e
        rw [Bool.and_eq_true] at e
        simp only [findM] at hf
        split at hf
        · rename_i hn
          have : n = name := by simpa using hn
          subst this
          cases hf
          refine ⟨m, hm, by simpa using e.1, ?_⟩
          have e2 := e.2
          cases hmf : m.func with
          | none => rw [hmf] at e2; cases e2
          | some q =>
            obtain ⟨g', b'⟩ := q
            rw [hmf] at e2; dsimp only at e2
            rw [Bool.and_eq_true, eqBool_eq] at e2
            have h2 : b' = b := by simpa using e2.2
            rw [beq_true e2.1, h2]
        · exact chkM_inv h name f p hf
      · cases h

def chkFields (P : Program) : List Field → Bool
  | [] => true
  | f :: fs => (match P.info? f.type with | some _ => chkFields P fs | none => false)
theorem chkFields_inv {P : Program} : ∀ {l : List Field}, chkFields P l = true → ∀ f ∈ l, ∃ i, P.info? f.type = some i
  | [], _, f, hf => by cases hf
  | g :: l, h, f, hf => by
    simp only [chkFields] at h
    cases hg : P.info? g.type with
    | none => rw [hg] at h; cases h
    | some i =>
      rw [hg] at h
      rcases List.mem_cons.mp hf with rfl | hf
      · exact ⟨i, hg⟩
      · exact chkFields_inv h f hf
def noBlank : List Field → Bool
  | [] => true
  | f :: fs => (match f.name == "_" with | true => false | false => noBlank fs)
theorem noBlank_inv : ∀ {l : List Field}, noBlank l = true → ∀ f ∈ l, f.name ≠ "_"
  | [], _, f, hf => by cases hf
  | g :: l, h, f, hf => by
    simp only [noBlank] at h
    cases hg : g.name == "_" with
    | true => rw [hg] at h; cases h
    | false =>
      rw [hg] at h
      rcases List.mem_cons.mp hf with rfl | hf
      · simpa using hg
      · exact noBlank_inv h f hf

def chkEq (P : Program) (t : TypeId) (i : TypeInfo) (d : TypeDesc) : Bool := match d with
  | .interface _ => true
  | .slice _ => true
  | .map _ _ => true
  | .func _ _ _ => true
  | .struct l => i.comparable && noBlank l.toList && !P.stoodInHeld t && !P.eqGuardType P.depth t
  | .array _ _ => i.comparable && !P.eqGuardType P.depth t
  | _ => i.comparable
def tyChk2 (P : Program) (t : TypeId) (c : TyC) (i : TypeInfo) (d : TypeDesc) : Bool :=
  Nat.beq i.size c.size && Nat.beq i.bytes c.bytes && chkK c.k d &&
  (match Nat.beq (lenS c.zero) c.size with | true => (match i.zero with | some z => chkZ (isAggK c.k) c.zero z | none => false) | false => true) &&
  (match c.eqok with | true => chkEq P t i d | false => true) &&
  (match d with | .struct l => chkFields P l.toList | _ => true) && chkM i c.meths
def tyChk (P : Program) (t : TypeId) (c : TyC) : Bool := match P.info? t with
  | none => false
  | some i => (match P.underlying t with
    | none => false
    | some d => tyChk2 P t c i d)

theorem tyChk_ok {P : Program} {t : TypeId} {c : TyC} (h : tyChk P t c = true) : ∃ i d, TyOk P t c i d := by
  unfold tyChk at h
  cases hi : P.info? t with
  | none => rw [hi] at h; cases h
  | some i =>
    rw [hi] at h; dsimp only at h
    cases hd : P.underlying t with
    | none => rw [hd] at h; cases h
    | some d =>
      rw [hd] at h; dsimp only at h
      unfold tyChk2 at h
      simp only [Bool.and_eq_true] at h
      obtain ⟨⟨⟨⟨⟨⟨h1, h2⟩, h3⟩, h4⟩, h5⟩, h6⟩, h7⟩ := h
      refine ⟨i, d, hi, hd, beq_true h1, beq_true h2, chkK_inv h3, fun hz => ?_, fun he hni => ?_, fun he hs => ?_, fun he hs => ?_, fun l hl => ?_, chkM_inv h7⟩
      · have : Nat.beq (lenS c.zero) c.size = true := by rw [lenS_eq, hz]; simp
        rw [this] at h4; dsimp only at h4
        cases hz : i.zero with
        | none => rw [hz] at h4; cases h4
        | some z => rw [hz] at h4; exact ⟨z, rfl, chkZ_inv h4⟩
      · rw [he] at h5; dsimp only at h5
        unfold chkEq at h5
        cases d <;> dsimp only at h5 <;> first
          | exact absurd rfl (hni _)
          | exact .inl ⟨_, rfl⟩
          | exact .inr (.inl ⟨_, _, rfl⟩)
          | exact .inr (.inr (.inl ⟨_, _, _, rfl⟩))
          | exact .inr (.inr (.inr h5))
          | (simp only [Bool.and_eq_true] at h5; exact .inr (.inr (.inr h5.1.1.1)))
          | (simp only [Bool.and_eq_true] at h5; exact .inr (.inr (.inr h5.1)))
      · rw [he] at h5; dsimp only at h5
        obtain ⟨l, rfl⟩ := hs
        simp only [chkEq, Bool.and_eq_true] at h5
        refine ⟨by simpa using h5.1.2, fun l' hl' => ?_⟩
        cases hl'
        exact noBlank_inv h5.1.1.2
      · rw [he] at h5; dsimp only at h5
        rcases hs with ⟨l, rfl⟩ | ⟨n, e, rfl⟩
        · simp only [chkEq, Bool.and_eq_true] at h5; simpa using h5.2
        · simp only [chkEq, Bool.and_eq_true] at h5; simpa using h5.2
      · subst hl
        exact chkFields_inv h6
end
end Go.Sx
namespace Go.Sx
open Go
/-- the program's table, whole -/
theorem tokOf {T : PT} {P : Program} {idx : List Nat} {I C : Nat} {fI fC : Func} (hty : allT (fun t c => tyChk P t c) T.ty 1 0 = true) (hix : allT (fun n _ => memB n idx) T.fns 1 0 = true)
    (hfn : idx.map (fun i => P.funcs[i]?) = idx.map fun i => T.fns.get i) (hname : allT (fun _ fn => !(fn.name == "runtime.NumGoroutine")) T.fns 1 0 = true) (hmix : P.follows .mixedOrders = true)
    (hI : allT (fun n fn => match fn.body with | some _ => true | none => (match fn.name == "internal/bytealg.IndexByteString" with | true => Nat.beq n I | false => true)) T.fns 1 0 = true)
    (hC : allT (fun n fn => match fn.body with | some _ => true | none => (match fn.name == "internal/bytealg.CountString" with | true => Nat.beq n C | false => true)) T.fns 1 0 = true)
    (eI : T.fns.get I = some fI) (eC : T.fns.get C = some fC) (nI : Extern.findNext fI = none) (nC : Extern.findNext fC = none) (gI : Extern.find fI = some Extern.BytealgIndexByte.indexByte) (gC : Extern.find fC = some Extern.BytealgCount.count) : TOk T P := by
  refine ⟨fun t c h => tyChk_ok (allT_get1 hty h), fun f fn h => ⟨?_, ?_⟩, hmix, fun f fn h hb hn => ?_, fun f fn h hb hn => ?_⟩
  · have hm := (memB_iff f idx).mp (allT_get1 hix h)
    obtain ⟨k, hk⟩ := List.mem_iff_getElem?.mp hm
    have := congrArg (·[k]?) hfn
    simp only [List.getElem?_map, hk, Option.map_some, Option.some.injEq] at this
    rw [this, h]
  · have := allT_get1 hname h
    simpa using this
  · have := allT_get1 hI h
    rw [hb] at this; dsimp only at this
    rw [hn] at this
    have := beq_true this; subst this
    rw [eI] at h; cases h
    exact ⟨nI, gI⟩
  · have := allT_get1 hC h
    rw [hb] at this; dsimp only at this
    rw [hn] at this
    have := beq_true this; subst this
    rw [eC] at h; cases h
    exact ⟨nC, gC⟩
end Go.Sx
