import Derived.Test.YtkmbllgoepcojaaDoorLx02
/- The program's data as Lean structures, their cells, and how a part is cut out of them or laid into them. -/
set_option linter.unusedVariables false
namespace Go.Lx

abbrev Str := ByteArray
abbrev Str.none : Str := ⟨#[]⟩

structure Key where
  str : Str
  sym : Int
  deriving DecidableEq
structure Val where
  kind : Int
  num : Nat
  str : Str
  ref : Int
  deriving DecidableEq
structure Desc where
  has : Int
  value : Val
  get : Val
  set : Val
  writable : Bool
  enumerable : Bool
  configurable : Bool
  deriving DecidableEq
structure Prp where
  key : Key
  desc : Desc
  deriving DecidableEq

def Key.zero : Key := ⟨Str.none, 0⟩
def Val.zero : Val := ⟨0, 0, Str.none, 0⟩
def Desc.zero : Desc := ⟨0, .zero, .zero, .zero, false, false, false⟩
def Prp.zero : Prp := ⟨.zero, .zero⟩

def encKey (k : Key) : U := [.str k.str, .int .i64 k.sym]
def encVal (v : Val) : U := [.int .u8 v.kind, .flt v.num, .str v.str, .int .i64 v.ref]
def encDesc (d : Desc) : U := .int .u8 d.has :: encVal d.value ++ encVal d.get ++ encVal d.set ++ [.bool d.writable, .bool d.enumerable, .bool d.configurable]
def encProp (p : Prp) : U := encKey p.key ++ encDesc p.desc

abbrev zKey : U := encKey .zero
abbrev zVal : U := encVal .zero
abbrev zDesc : U := encDesc .zero
abbrev zProp : U := encProp .zero

section
@[simp] theorem encKey_len (k : Key) : (encKey k).length = 2 := rfl
@[simp] theorem encVal_len (k : Val) : (encVal k).length = 4 := rfl
@[simp] theorem encDesc_len (k : Desc) : (encDesc k).length = 16 := rfl
@[simp] theorem encProp_len (k : Prp) : (encProp k).length = 18 := rfl

@[simp] theorem cut_all (u : U) : cut u 0 u.length = u := by simp [cut]
@[simp] theorem cutK (k : Key) : cut (encKey k) 0 2 = encKey k := rfl
@[simp] theorem cutK0 (k : Key) : cut (encKey k) 0 1 = [.str k.str] := rfl
@[simp] theorem cutK1 (k : Key) : cut (encKey k) 1 1 = [.int .i64 k.sym] := rfl
@[simp] theorem cutV (v : Val) : cut (encVal v) 0 4 = encVal v := rfl
@[simp] theorem cutV0 (v : Val) : cut (encVal v) 0 1 = [.int .u8 v.kind] := rfl
@[simp] theorem cutV1 (v : Val) : cut (encVal v) 1 1 = [.flt v.num] := rfl
@[simp] theorem cutV2 (v : Val) : cut (encVal v) 2 1 = [.str v.str] := rfl
@[simp] theorem cutV3 (v : Val) : cut (encVal v) 3 1 = [.int .i64 v.ref] := rfl
@[simp] theorem cutD (d : Desc) : cut (encDesc d) 0 16 = encDesc d := rfl
@[simp] theorem cutD0 (d : Desc) : cut (encDesc d) 0 1 = [.int .u8 d.has] := rfl
@[simp] theorem cutD1 (d : Desc) : cut (encDesc d) 1 4 = encVal d.value := rfl
@[simp] theorem cutD1k (d : Desc) : cut (encDesc d) 1 1 = [.int .u8 d.value.kind] := rfl
@[simp] theorem cutD1n (d : Desc) : cut (encDesc d) 2 1 = [.flt d.value.num] := rfl
@[simp] theorem cutD5 (d : Desc) : cut (encDesc d) 5 4 = encVal d.get := rfl
@[simp] theorem cutD9 (d : Desc) : cut (encDesc d) 9 4 = encVal d.set := rfl
@[simp] theorem cutD13 (d : Desc) : cut (encDesc d) 13 1 = [.bool d.writable] := rfl
@[simp] theorem cutD14 (d : Desc) : cut (encDesc d) 14 1 = [.bool d.enumerable] := rfl
@[simp] theorem cutD15 (d : Desc) : cut (encDesc d) 15 1 = [.bool d.configurable] := rfl
@[simp] theorem cutP (d : Prp) : cut (encProp d) 0 18 = encProp d := rfl
@[simp] theorem cutP0 (d : Prp) : cut (encProp d) 0 2 = encKey d.key := rfl
@[simp] theorem cutP2 (d : Prp) : cut (encProp d) 2 16 = encDesc d.desc := rfl
end
end Go.Lx
