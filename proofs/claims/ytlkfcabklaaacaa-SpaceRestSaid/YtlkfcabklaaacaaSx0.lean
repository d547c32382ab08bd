/- Words of my own, printed by a program of mine: abstract values, kinds of rows. -/
import Derived.Test.YtlkfcabklaaacaaHo
set_option linter.unusedVariables false
namespace Go.Ev
open Go.RowKit
structure Fork where
  key : List UInt8
  child : Nat
  deriving DecidableEq
structure Pair where
  key : List UInt8
  value : List UInt8
  deriving DecidableEq
structure Fnd where
  kind : Int
  page : Nat
  other : Nat
  deriving DecidableEq
structure Orp where
  page : Nat
  slot : Int
  key : List UInt8
  value : List UInt8
  deriving DecidableEq
structure Lnk where
  pg : Pg
  e : Int
  deriving DecidableEq
structure Rgt where
  page : Nat
  kind : Int
  tx : Nat
  deriving DecidableEq
structure Mta where
  tx : Nat
  size : Int
  root : Nat
  free : Nat
  pages : Nat
  deriving DecidableEq
structure Wrt where
  page : Nat
  block : List UInt8
  deriving DecidableEq
structure Cnd where
  page : Nat
  tx : Nat
  isM : Bool
  deriving DecidableEq
/-- Kinds of rows. -/
inductive RK where
  | u8 | u32 | u64 | i64 | st | bl | item | page | fork | pair | fnd | orp | lnk | rgt | mta | wrt | cnd
  deriving DecidableEq
@[reducible] def RK.α : RK → Type
  | .u8 => UInt8
  | .u32 => Nat
  | .u64 => Nat
  | .i64 => Int
  | .st => List UInt8
  | .bl => Bool
  | .item => Item
  | .page => Pg
  | .fork => Fork
  | .pair => Pair
  | .fnd => Fnd
  | .orp => Orp
  | .lnk => Lnk
  | .rgt => Rgt
  | .mta => Mta
  | .wrt => Wrt
  | .cnd => Cnd
/-- An abstract value: names of blocks are literals, what is in it may be any term. -/
inductive AV where
  | i (k : IntKind) (n : Int)
  | n (k : IntKind) (m : Nat)
  | y (x : UInt8)
  | b (x : Bool)
  | s (l : List UInt8)
  | nsl | nptr | nmap | nfn | nifc | un | jk
  | sl (id z : Nat)
  | ptr (id o : Nat)
  | ep (id i z j : Nat)
  | ag (l : List AV)
  | tu (l : List AV)
  | fn (f : Nat) (l : List AV)
  | ifc (t : Nat) (v : AV)
  | mp (id : Nat)
  | yl (id : Nat)
  | st (g o : Nat)
  | pk (v : AV)
  | ar (K : RK) (l : List K.α)
def RK.z : RK → Nat
  | .u8 => 1
  | .u32 => 1
  | .u64 => 1
  | .i64 => 1
  | .st => 1
  | .bl => 1
  | .item => 5
  | .page => 6
  | .fork => 2
  | .pair => 2
  | .fnd => 3
  | .orp => 4
  | .lnk => 7
  | .rgt => 3
  | .mta => 5
  | .wrt => 2
  | .cnd => 3
def RK.k : (K : RK) → K.α → List AV
  | .u8, x => [.y x]
  | .u32, x => [.n .u32 x]
  | .u64, x => [.n .u64 x]
  | .i64, x => [.i .i64 x]
  | .st, x => [.s x]
  | .bl, x => [.b x]
  | .item, x => [.s x.key, .s x.value, .b x.over, .i .i64 x.len, .n .u32 x.head]
  | .page, x => [.i .i64 x.kind, .i .i64 x.count, .n .u32 x.page, .n .u32 x.link, .n .u64 x.tx, .s x.body]
  | .fork, x => [.s x.key, .n .u32 x.child]
  | .pair, x => [.s x.key, .s x.value]
  | .fnd, x => [.i .i64 x.kind, .n .u32 x.page, .n .u32 x.other]
  | .orp, x => [.n .u32 x.page, .i .i64 x.slot, .s x.key, .s x.value]
  | .lnk, x => [.i .i64 x.pg.kind, .i .i64 x.pg.count, .n .u32 x.pg.page, .n .u32 x.pg.link, .n .u64 x.pg.tx, .s x.pg.body, .i .i64 x.e]
  | .rgt, x => [.n .u32 x.page, .i .i64 x.kind, .n .u64 x.tx]
  | .mta, x => [.n .u64 x.tx, .i .i64 x.size, .n .u32 x.root, .n .u32 x.free, .n .u32 x.pages]
  | .wrt, x => [.n .u32 x.page, .s x.block]
  | .cnd, x => [.n .u32 x.page, .n .u64 x.tx, .b x.isM]
def mk_u8 : List AV → Option (UInt8)
  | [.y x0] => some x0
  | _ => none
def mk_u32 : List AV → Option (Nat)
  | [.n .u32 x0] => some x0
  | _ => none
def mk_u64 : List AV → Option (Nat)
  | [.n .u64 x0] => some x0
  | _ => none
def mk_i64 : List AV → Option (Int)
  | [.i .i64 x0] => some x0
  | _ => none
def mk_st : List AV → Option (List UInt8)
  | [.s x0] => some x0
  | _ => none
def mk_bl : List AV → Option (Bool)
  | [.b x0] => some x0
  | _ => none
def mk_item : List AV → Option (Item)
  | [.s x0, .s x1, .b x2, .i .i64 x3, .n .u32 x4] => some ⟨x0, x1, x2, x3, x4⟩
  | _ => none
def mk_page : List AV → Option (Pg)
  | [.i .i64 x0, .i .i64 x1, .n .u32 x2, .n .u32 x3, .n .u64 x4, .s x5] => some ⟨x0, x1, x2, x3, x4, x5⟩
  | _ => none
def mk_fork : List AV → Option (Fork)
  | [.s x0, .n .u32 x1] => some ⟨x0, x1⟩
  | _ => none
def mk_pair : List AV → Option (Pair)
  | [.s x0, .s x1] => some ⟨x0, x1⟩
  | _ => none
def mk_fnd : List AV → Option (Fnd)
  | [.i .i64 x0, .n .u32 x1, .n .u32 x2] => some ⟨x0, x1, x2⟩
  | _ => none
def mk_orp : List AV → Option (Orp)
  | [.n .u32 x0, .i .i64 x1, .s x2, .s x3] => some ⟨x0, x1, x2, x3⟩
  | _ => none
def mk_lnk : List AV → Option (Lnk)
  | [.i .i64 x0, .i .i64 x1, .n .u32 x2, .n .u32 x3, .n .u64 x4, .s x5, .i .i64 x6] => some ⟨⟨x0, x1, x2, x3, x4, x5⟩, x6⟩
  | _ => none
def mk_rgt : List AV → Option (Rgt)
  | [.n .u32 x0, .i .i64 x1, .n .u64 x2] => some ⟨x0, x1, x2⟩
  | _ => none
def mk_mta : List AV → Option (Mta)
  | [.n .u64 x0, .i .i64 x1, .n .u32 x2, .n .u32 x3, .n .u32 x4] => some ⟨x0, x1, x2, x3, x4⟩
  | _ => none
def mk_wrt : List AV → Option (Wrt)
  | [.n .u32 x0, .s x1] => some ⟨x0, x1⟩
  | _ => none
def mk_cnd : List AV → Option (Cnd)
  | [.n .u32 x0, .n .u64 x1, .b x2] => some ⟨x0, x1, x2⟩
  | _ => none
def RK.mk (K : RK) (cs : List AV) : Option K.α := match K with
  | .u8 => mk_u8 cs
  | .u32 => mk_u32 cs
  | .u64 => mk_u64 cs
  | .i64 => mk_i64 cs
  | .st => mk_st cs
  | .bl => mk_bl cs
  | .item => mk_item cs
  | .page => mk_page cs
  | .fork => mk_fork cs
  | .pair => mk_pair cs
  | .fnd => mk_fnd cs
  | .orp => mk_orp cs
  | .lnk => mk_lnk cs
  | .rgt => mk_rgt cs
  | .mta => mk_mta cs
  | .wrt => mk_wrt cs
  | .cnd => mk_cnd cs
def RK.dflt : (K : RK) → K.α
  | .u8 => 0
  | .u32 => 0
  | .u64 => 0
  | .i64 => 0
  | .st => []
  | .bl => false
  | .item => ⟨[], [], false, 0, 0⟩
  | .page => ⟨0, 0, 0, 0, 0, []⟩
  | .fork => ⟨[], 0⟩
  | .pair => ⟨[], []⟩
  | .fnd => ⟨0, 0, 0⟩
  | .orp => ⟨0, 0, [], []⟩
  | .lnk => ⟨⟨0, 0, 0, 0, 0, []⟩, 0⟩
  | .rgt => ⟨0, 0, 0⟩
  | .mta => ⟨0, 0, 0, 0, 0⟩
  | .wrt => ⟨0, []⟩
  | .cnd => ⟨0, 0, false⟩
theorem RK.mk_ok {K : RK} {cs : List AV} {x : K.α} (h : K.mk cs = some x) : cs = K.k x := by
  cases K
  · replace h : mk_u8 cs = some x := h
    unfold mk_u8 at h; split at h <;> first | (cases h; rfl) | cases h
  · replace h : mk_u32 cs = some x := h
    unfold mk_u32 at h; split at h <;> first | (cases h; rfl) | cases h
  · replace h : mk_u64 cs = some x := h
    unfold mk_u64 at h; split at h <;> first | (cases h; rfl) | cases h
  · replace h : mk_i64 cs = some x := h
    unfold mk_i64 at h; split at h <;> first | (cases h; rfl) | cases h
  · replace h : mk_st cs = some x := h
    unfold mk_st at h; split at h <;> first | (cases h; rfl) | cases h
  · replace h : mk_bl cs = some x := h
    unfold mk_bl at h; split at h <;> first | (cases h; rfl) | cases h
  · replace h : mk_item cs = some x := h
    unfold mk_item at h; split at h <;> first | (cases h; rfl) | cases h
  · replace h : mk_page cs = some x := h
    unfold mk_page at h; split at h <;> first | (cases h; rfl) | cases h
  · replace h : mk_fork cs = some x := h
    unfold mk_fork at h; split at h <;> first | (cases h; rfl) | cases h
  · replace h : mk_pair cs = some x := h
    unfold mk_pair at h; split at h <;> first | (cases h; rfl) | cases h
  · replace h : mk_fnd cs = some x := h
    unfold mk_fnd at h; split at h <;> first | (cases h; rfl) | cases h
  · replace h : mk_orp cs = some x := h
    unfold mk_orp at h; split at h <;> first | (cases h; rfl) | cases h
  · replace h : mk_lnk cs = some x := h
    unfold mk_lnk at h; split at h <;> first | (cases h; rfl) | cases h
  · replace h : mk_rgt cs = some x := h
    unfold mk_rgt at h; split at h <;> first | (cases h; rfl) | cases h
  · replace h : mk_mta cs = some x := h
    unfold mk_mta at h; split at h <;> first | (cases h; rfl) | cases h
  · replace h : mk_wrt cs = some x := h
    unfold mk_wrt at h; split at h <;> first | (cases h; rfl) | cases h
  · replace h : mk_cnd cs = some x := h
    unfold mk_cnd at h; split at h <;> first | (cases h; rfl) | cases h
/-- A value without names, as the model has it. -/
def fl : AV → Value
  | .i k n => .int k n
  | .n k m => .int k (m : Int)
  | .y x => .int .u8 ((x.toNat : Nat) : Int)
  | .b x => .bool x
  | .s l => str l
  | _ => .nilFunc
def RK.kv (K : RK) (x : K.α) : List Value := (K.k x).map fl
instance (K : RK) : RowK K.kv K.z := by
  refine ⟨fun x => ?_, fun x => ?_, fun x => ?_⟩ <;> cases K <;> rfl
theorem RK.dflt_ok (K : RK) : K.mk (K.k K.dflt) = some K.dflt := by cases K <;> rfl
end Go.Ev
