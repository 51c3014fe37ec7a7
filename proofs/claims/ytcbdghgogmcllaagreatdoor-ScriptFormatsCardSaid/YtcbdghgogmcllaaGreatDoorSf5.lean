/- Lemmas and definitions of this claim (own texts, joined by a program; what the claim does not use is left out). -/
import Derived.Test.YtcbdghgogmcllaaGreatDoorSf4
import Derived.Test.YtcbdghgogmcllaaGreatDoorRows
import Derived.KernelRfl
import Derived.Laws.BitsAllLaws
import Derived.Shelf.Strings.Builder1
import Derived.Shelf.Strings.Builder2
import Derived.Shelf.Strings.OnBuilder
import Derived.Shelf.Small.Wraps
import Derived.Shelf.Strings.BuilderF
import Derived.Shelf.Strings.BuilderK
import Derived.Shelf.Utf8.RuneCount
import Derived.Shelf.Strings.Builder2Cap
import Derived.Shelf.Strconv.Atoi
import Derived.Shelf.Strconv.Itoa0
import Derived.Shelf.Strconv.Itoa1
import Derived.Shelf.LaysM
import Derived.Shelf.Strconv.Itoa2
import Derived.Shelf.Strconv.Itoa3
import Derived.Shelf.Strconv.Itoa4
import Derived.Shelf.Strconv.AtoiErrFast
import Derived.Shelf.Strconv.ParseIntEmpty
import Derived.Shelf.Strconv.AtoiFail
import Derived.Shelf.Strconv.Clone
import Derived.Shelf.Strconv.SyntaxError
import Derived.Shelf.LaysC
import Derived.Shelf.Strconv.ToError
import Derived.Shelf.Strconv.AtoiErr
import Derived.Shelf.Strconv.ErrVar
import Derived.Shelf.Strconv.Lower
import Derived.Shelf.Strconv.ParseUint10
import Derived.Shelf.Strconv.ParseUint10Empty
import Derived.Shelf.Strconv.ParseUint10Any
import Derived.Shelf.Strconv.ParseInt10
import Derived.Shelf.Strconv.AtoiLong
import Derived.Shelf.Strconv.AtoiInnerAll
import Derived.Shelf.Strconv.RangeError
import Derived.Shelf.Strconv.ToErrorRange
import Derived.Shelf.Strconv.AtoiAll
import Derived.Shelf.Strconv.ErrVarAll
import Derived.Shelf.Strconv.ParseUintEmpty
import Derived.Shelf.Strconv.ParseUint10b64
import Derived.Shelf.Strconv.ParseUint10b32
import Derived.Shelf.Strconv.ParseUint10b16
import Derived.Shelf.Strconv.ParseUint10b8
import Derived.Shelf.Strconv.ParseUint10At
import Derived.Shelf.Strconv.ParseInt10At64
import Derived.Shelf.Strconv.ParseInt10At32
import Derived.Shelf.Strconv.ParseInt10At16
import Derived.Shelf.Strconv.ParseInt10At8
import Derived.Shelf.Strconv.ParseInt10All
import Derived.Shelf.Strconv.ParseIntPublic10
import Derived.Shelf.Strconv.ErrVarParseInt
import Derived.Shelf.Strings.Search1
import Derived.Shelf.Strings.Search2
import Derived.Shelf.Strings.Search3
import Derived.Shelf.Strings.Count
import Derived.Shelf.Strings.Shaped
import Derived.Shelf.Strings.LastIndex
import Derived.Shelf.Strings.LastIndexAll
import Derived.Shelf.Strings.Prefix
import Derived.Shelf.Strings.Split
import Derived.Shelf.Strings.SplitShaped
import Derived.Shelf.Unicode.Decode
import Derived.Shelf.Strings.RuneCount
import Derived.Shelf.Strings.Explode
import Derived.Shelf.Unicode.DecodeSlow
import Derived.Shelf.Unicode.DecodeAny
import Derived.Shelf.Strings.BuilderCap
import Derived.Test.YtcbdghgogmcllaaGreatDoorProg
set_option linter.all false
set_option maxRecDepth 100000
set_option maxHeartbeats 4000000
section
namespace Go.Proofs.YtcbdghgogmcllaaGreatDoor
open Go Go.Sy
theorem mixed : Fit Tryz.prog := ⟨by kernel_rfl, fun _ h => by cases h⟩
attribute [go_sem] Tryz.underlying1
@[go_sem] theorem sz2 : szOf Tryz.prog 2 = some 1 := by kernel_rfl
@[go_sem] theorem ag2 : aggT Tryz.prog 2 = false := by kernel_rfl
attribute [go_sem] Tryz.underlying2
@[go_sem] theorem sz3 : szOf Tryz.prog 3 = some 1 := by kernel_rfl
@[go_sem] theorem ag3 : aggT Tryz.prog 3 = false := by kernel_rfl
@[go_sem] theorem zo3 : zerosOf Tryz.prog 3 = some [.int .i64 0] := by kernel_rfl
attribute [go_sem] Tryz.underlying3
@[go_sem] theorem eql3 (d : Nat) (k : IntKind) (a b : Int) : eqV Tryz.prog (d + 1) 3 (.int k a) (.int k b) = some (a == b) := eqV_int Tryz.underlying3 d k a b
@[go_sem] theorem sz4 : szOf Tryz.prog 4 = some 1 := by kernel_rfl
@[go_sem] theorem ag4 : aggT Tryz.prog 4 = false := by kernel_rfl
attribute [go_sem] Tryz.underlying4
@[go_sem] theorem eql4 (d : Nat) (a b : Bool) : eqV Tryz.prog (d + 1) 4 (.bool a) (.bool b) = some (a == b) := eqV_bool Tryz.underlying4 d a b
@[go_sem] theorem sz5 : szOf Tryz.prog 5 = some 1 := by kernel_rfl
@[go_sem] theorem ag5 : aggT Tryz.prog 5 = false := by kernel_rfl
@[go_sem] theorem by5 : Tryz.prog.bytesOf 5 = 1 := by kernel_rfl
@[go_sem] theorem zo5 : zerosOf Tryz.prog 5 = some [.int .u8 0] := by kernel_rfl
attribute [go_sem] Tryz.underlying5
attribute [go_sem] Tryz.underlying6
attribute [go_sem] Tryz.underlying7
attribute [go_sem] Tryz.underlying8
@[go_sem] theorem sz9 : szOf Tryz.prog 9 = some 1 := by kernel_rfl
@[go_sem] theorem ag9 : aggT Tryz.prog 9 = false := by kernel_rfl
@[go_sem] theorem by9 : Tryz.prog.bytesOf 9 = 16 := by kernel_rfl
@[go_sem] theorem zo9 : zerosOf Tryz.prog 9 = some [.str []] := by kernel_rfl
attribute [go_sem] Tryz.underlying9
attribute [go_sem] Tryz.underlying10
attribute [go_sem] Tryz.underlying11
attribute [go_sem] Tryz.underlying12
attribute [go_sem] Tryz.underlying13
attribute [go_sem] Tryz.underlying14
attribute [go_sem] Tryz.underlying15
attribute [go_sem] Tryz.underlying16
attribute [go_sem] Tryz.underlying17
attribute [go_sem] Tryz.underlying18
attribute [go_sem] Tryz.underlying19
attribute [go_sem] Tryz.underlying20
attribute [go_sem] Tryz.underlying21
@[go_sem] theorem sz22 : szOf Tryz.prog 22 = some 1 := by kernel_rfl
@[go_sem] theorem ag22 : aggT Tryz.prog 22 = false := by kernel_rfl
attribute [go_sem] Tryz.underlying22
@[go_sem] theorem el22 : elemT Tryz.prog 22 = some 5 := by kernel_rfl
@[go_sem] theorem ap22 (B : List Box) (s x : CV) : appendC Tryz.prog 22 B s x = appendK Tryz.prog 5 1 B s x := appendC_eq (by kernel_rfl) (by kernel_rfl) (by kernel_rfl) B s x
attribute [go_sem] Tryz.underlying23
attribute [go_sem] Tryz.underlying24
attribute [go_sem] Tryz.underlying26
@[go_sem] theorem sz27 : szOf Tryz.prog 27 = some 1 := by kernel_rfl
@[go_sem] theorem ag27 : aggT Tryz.prog 27 = false := by kernel_rfl
@[go_sem] theorem zo27 : zerosOf Tryz.prog 27 = some [.nilS] := by kernel_rfl
attribute [go_sem] Tryz.underlying27
@[go_sem] theorem el27 : elemT Tryz.prog 27 = some 47 := by kernel_rfl
@[go_sem] theorem ap27 (B : List Box) (s x : CV) : appendC Tryz.prog 27 B s x = appendK Tryz.prog 47 60 B s x := appendC_eq (by kernel_rfl) (by kernel_rfl) (by kernel_rfl) B s x
attribute [go_sem] Tryz.underlying28
attribute [go_sem] Tryz.underlying29
attribute [go_sem] Tryz.underlying30
@[go_sem] theorem el30 : elemT Tryz.prog 30 = some 9 := by kernel_rfl
@[go_sem] theorem ap30 (B : List Box) (s x : CV) : appendC Tryz.prog 30 B s x = appendK Tryz.prog 9 1 B s x := appendC_eq (by kernel_rfl) (by kernel_rfl) (by kernel_rfl) B s x
attribute [go_sem] Tryz.underlying32
attribute [go_sem] Tryz.underlying33
attribute [go_sem] Tryz.underlying34
attribute [go_sem] Tryz.underlying35
attribute [go_sem] Tryz.underlying36
@[go_sem] theorem sz37 : szOf Tryz.prog 37 = some 16 := by kernel_rfl
@[go_sem] theorem ag37 : aggT Tryz.prog 37 = true := by kernel_rfl
@[go_sem] theorem zo37 : zerosOf Tryz.prog 37 = some [.int .u8 0, .int .u8 0, .int .u8 0, .int .u8 0, .int .u8 0, .int .u8 0, .int .u8 0, .int .u8 0, .int .u8 0, .int .u8 0, .int .u8 0, .int .u8 0, .int .u8 0, .int .u8 0, .int .u8 0, .int .u8 0] := by kernel_rfl
attribute [go_sem] Tryz.underlying37
@[go_sem] theorem eqb37 (l1 l2 : List UInt8) (h1 : l1.length = 16) (h2 : l2.length = 16) (d : Nat) : eqV Tryz.prog (d + 2) 37 (.agg (l1.map byteC)) (.agg (l2.map byteC)) = some (l1 == l2) := eqV_bytes Tryz.underlying37 Tryz.underlying5 (by kernel_rfl) (by kernel_rfl) l1 l2 h1 h2
attribute [go_sem] Tryz.underlying38
@[go_sem] theorem sz39 : szOf Tryz.prog 39 = some 17 := by kernel_rfl
@[go_sem] theorem ag39 : aggT Tryz.prog 39 = true := by kernel_rfl
@[go_sem] theorem zo39 : zerosOf Tryz.prog 39 = some [.bool false, .int .u8 0, .int .u8 0, .int .u8 0, .int .u8 0, .int .u8 0, .int .u8 0, .int .u8 0, .int .u8 0, .int .u8 0, .int .u8 0, .int .u8 0, .int .u8 0, .int .u8 0, .int .u8 0, .int .u8 0, .int .u8 0] := by kernel_rfl
attribute [go_sem] Tryz.underlying39
@[go_sem] theorem st39 : Tryz.prog.stoodInHeld 39 = false := by kernel_rfl
@[go_sem] theorem eqs39 (d : Nat) (xs ys : List CV) : eqV Tryz.prog (d + 1) 39 (.agg xs) (.agg ys) = eqF Tryz.prog d xs ys (match Tryz.prog.underlying 39 with | some (.struct fs) => fs.toList | _ => []) := by rw [Tryz.underlying39]; exact eqV_struct Tryz.underlying39 st39 d xs ys
attribute [go_sem] Tryz.underlying40
@[go_sem] theorem sz41 : szOf Tryz.prog 41 = some 18 := by kernel_rfl
@[go_sem] theorem ag41 : aggT Tryz.prog 41 = true := by kernel_rfl
@[go_sem] theorem zo41 : zerosOf Tryz.prog 41 = some [.bool false, .int .u8 0, .int .u8 0, .int .u8 0, .int .u8 0, .int .u8 0, .int .u8 0, .int .u8 0, .int .u8 0, .int .u8 0, .int .u8 0, .int .u8 0, .int .u8 0, .int .u8 0, .int .u8 0, .int .u8 0, .int .u8 0, .int .i64 0] := by kernel_rfl
attribute [go_sem] Tryz.underlying41
@[go_sem] theorem st41 : Tryz.prog.stoodInHeld 41 = false := by kernel_rfl
@[go_sem] theorem eqs41 (d : Nat) (xs ys : List CV) : eqV Tryz.prog (d + 1) 41 (.agg xs) (.agg ys) = eqF Tryz.prog d xs ys (match Tryz.prog.underlying 41 with | some (.struct fs) => fs.toList | _ => []) := by rw [Tryz.underlying41]; exact eqV_struct Tryz.underlying41 st41 d xs ys
attribute [go_sem] Tryz.underlying42
@[go_sem] theorem sz43 : szOf Tryz.prog 43 = some 22 := by kernel_rfl
@[go_sem] theorem ag43 : aggT Tryz.prog 43 = true := by kernel_rfl
@[go_sem] theorem zo43 : zerosOf Tryz.prog 43 = some [.int .i64 0, .bool false, .int .u8 0, .int .u8 0, .int .u8 0, .int .u8 0, .int .u8 0, .int .u8 0, .int .u8 0, .int .u8 0, .int .u8 0, .int .u8 0, .int .u8 0, .int .u8 0, .int .u8 0, .int .u8 0, .int .u8 0, .int .u8 0, .int .i64 0, .nilS, .int .i64 0, .str []] := by kernel_rfl
attribute [go_sem] Tryz.underlying43
attribute [go_sem] Tryz.underlying44
@[go_sem] theorem sz45 : szOf Tryz.prog 45 = some 32 := by kernel_rfl
@[go_sem] theorem ag45 : aggT Tryz.prog 45 = true := by kernel_rfl
@[go_sem] theorem zo45 : zerosOf Tryz.prog 45 = some [.int .u8 0, .int .u8 0, .int .u8 0, .int .u8 0, .int .u8 0, .int .u8 0, .int .u8 0, .int .u8 0, .int .u8 0, .int .u8 0, .int .u8 0, .int .u8 0, .int .u8 0, .int .u8 0, .int .u8 0, .int .u8 0, .int .u8 0, .int .u8 0, .int .u8 0, .int .u8 0, .int .u8 0, .int .u8 0, .int .u8 0, .int .u8 0, .int .u8 0, .int .u8 0, .int .u8 0, .int .u8 0, .int .u8 0, .int .u8 0, .int .u8 0, .int .u8 0] := by kernel_rfl
attribute [go_sem] Tryz.underlying45
@[go_sem] theorem eqb45 (l1 l2 : List UInt8) (h1 : l1.length = 32) (h2 : l2.length = 32) (d : Nat) : eqV Tryz.prog (d + 2) 45 (.agg (l1.map byteC)) (.agg (l2.map byteC)) = some (l1 == l2) := eqV_bytes Tryz.underlying45 Tryz.underlying5 (by kernel_rfl) (by kernel_rfl) l1 l2 h1 h2
attribute [go_sem] Tryz.underlying46
@[go_sem] theorem sz47 : szOf Tryz.prog 47 = some 60 := by kernel_rfl
@[go_sem] theorem ag47 : aggT Tryz.prog 47 = true := by kernel_rfl
@[go_sem] theorem by47 : Tryz.prog.bytesOf 47 = 168 := by kernel_rfl
@[go_sem] theorem zo47 : zerosOf Tryz.prog 47 = some [.int .i64 0, .int .i64 0, .bool false, .int .u8 0, .int .u8 0, .int .u8 0, .int .u8 0, .int .u8 0, .int .u8 0, .int .u8 0, .int .u8 0, .int .u8 0, .int .u8 0, .int .u8 0, .int .u8 0, .int .u8 0, .int .u8 0, .int .u8 0, .int .u8 0, .int .i64 0, .nilS, .int .i64 0, .str [], .int .i64 0, .int .i64 0, .int .u8 0, .int .i64 0, .int .i64 0, .int .u8 0, .int .u8 0, .int .u8 0, .int .u8 0, .int .u8 0, .int .u8 0, .int .u8 0, .int .u8 0, .int .u8 0, .int .u8 0, .int .u8 0, .int .u8 0, .int .u8 0, .int .u8 0, .int .u8 0, .int .u8 0, .int .u8 0, .int .u8 0, .int .u8 0, .int .u8 0, .int .u8 0, .int .u8 0, .int .u8 0, .int .u8 0, .int .u8 0, .int .u8 0, .int .u8 0, .int .u8 0, .int .u8 0, .int .u8 0, .int .u8 0, .int .u8 0] := by kernel_rfl
attribute [go_sem] Tryz.underlying47
attribute [go_sem] Tryz.underlying48
attribute [go_sem] Tryz.underlying49
attribute [go_sem] Tryz.underlying50
@[go_sem] theorem el50 : elemT Tryz.prog 50 = some 27 := by kernel_rfl
attribute [go_sem] Tryz.underlying51
attribute [go_sem] Tryz.underlying52
attribute [go_sem] Tryz.underlying53
attribute [go_sem] Tryz.underlying55
attribute [go_sem] Tryz.underlying56
attribute [go_sem] Tryz.underlying57
attribute [go_sem] Tryz.underlying58
attribute [go_sem] Tryz.underlying59
attribute [go_sem] Tryz.underlying60
attribute [go_sem] Tryz.underlying61
@[go_sem] theorem sz62 : szOf Tryz.prog 62 = some 10 := by kernel_rfl
attribute [go_sem] Tryz.underlying62
@[go_sem] theorem sz63 : szOf Tryz.prog 63 = some 1 := by kernel_rfl
@[go_sem] theorem ag63 : aggT Tryz.prog 63 = false := by kernel_rfl
attribute [go_sem] Tryz.underlying63
@[go_sem] theorem el63 : elemT Tryz.prog 63 = some 183 := by kernel_rfl
@[go_sem] theorem sz64 : szOf Tryz.prog 64 = some 1 := by kernel_rfl
attribute [go_sem] Tryz.underlying64
@[go_sem] theorem sz65 : szOf Tryz.prog 65 = some 1 := by kernel_rfl
attribute [go_sem] Tryz.underlying65
@[go_sem] theorem sz66 : szOf Tryz.prog 66 = some 1 := by kernel_rfl
attribute [go_sem] Tryz.underlying66
@[go_sem] theorem sz67 : szOf Tryz.prog 67 = some 1 := by kernel_rfl
attribute [go_sem] Tryz.underlying67
@[go_sem] theorem sz68 : szOf Tryz.prog 68 = some 1 := by kernel_rfl
attribute [go_sem] Tryz.underlying68
attribute [go_sem] Tryz.underlying69
@[go_sem] theorem sz70 : szOf Tryz.prog 70 = some 148 := by kernel_rfl
@[go_sem] theorem ag70 : aggT Tryz.prog 70 = true := by kernel_rfl
@[go_sem] theorem zo70 : zerosOf Tryz.prog 70 = some [.int .u64 0, .int .u64 0, .int .i64 0, .int .i64 0, .int .i64 0, .int .i64 0, .int .i64 0, .int .i64 0, .int .i64 0, .int .i64 0, .int .u8 0, .int .u8 0, .int .u8 0, .int .u8 0, .int .u8 0, .int .u8 0, .int .u8 0, .int .u8 0, .int .u8 0, .int .u8 0, .int .u8 0, .int .u8 0, .int .u8 0, .int .u8 0, .int .u8 0, .int .u8 0, .int .u8 0, .int .u8 0, .int .u8 0, .int .u8 0, .int .u8 0, .int .u8 0, .int .u8 0, .int .u8 0, .int .u8 0, .int .u8 0, .int .u8 0, .int .u8 0, .int .u8 0, .int .u8 0, .int .u8 0, .int .u8 0, .int .u8 0, .int .u8 0, .int .u8 0, .int .u8 0, .int .u8 0, .int .u8 0, .int .u8 0, .int .u8 0, .int .u8 0, .int .u8 0, .int .u8 0, .int .u8 0, .int .u8 0, .int .u8 0, .int .u8 0, .int .u8 0, .int .u8 0, .int .u8 0, .int .u8 0, .int .u8 0, .int .u8 0, .int .u8 0, .int .u8 0, .int .u8 0, .int .u8 0, .int .u8 0, .int .u8 0, .int .u8 0, .int .u8 0, .int .u8 0, .int .u8 0, .int .u8 0, .int .i64 0, .int .u8 0, .int .u8 0, .int .u8 0, .int .u8 0, .int .u8 0, .int .u8 0, .int .u8 0, .int .u8 0, .int .u8 0, .int .u8 0, .int .u8 0, .int .u8 0, .int .u8 0, .int .u8 0, .int .u8 0, .int .u8 0, .int .u8 0, .int .u8 0, .int .u8 0, .int .u8 0, .int .u8 0, .int .u8 0, .int .u8 0, .int .u8 0, .int .u8 0, .int .u8 0, .int .u8 0, .int .u8 0, .int .u8 0, .int .u8 0, .int .u8 0, .int .u8 0, .int .i64 0, .nilS, .nilS, .nilS, .nilS, .int .u8 0, .int .u8 0, .int .u8 0, .int .u8 0, .int .u8 0, .int .u8 0, .int .u8 0, .int .u8 0, .int .u8 0, .int .u8 0, .int .u8 0, .int .u8 0, .int .u8 0, .int .u8 0, .int .u8 0, .int .u8 0, .int .u8 0, .int .u8 0, .int .u8 0, .int .u8 0, .int .u8 0, .int .u8 0, .int .u8 0, .int .u8 0, .int .u8 0, .int .u8 0, .int .u8 0, .int .u8 0, .int .u8 0, .int .u8 0, .int .u8 0, .int .u8 0, .int .i64 0, .nilS, .nilS, .int .i64 0] := by kernel_rfl
attribute [go_sem] Tryz.underlying70
attribute [go_sem] Tryz.underlying71
attribute [go_sem] Tryz.underlying72
attribute [go_sem] Tryz.underlying73
attribute [go_sem] Tryz.underlying74
attribute [go_sem] Tryz.underlying75
attribute [go_sem] Tryz.underlying76
attribute [go_sem] Tryz.underlying77
attribute [go_sem] Tryz.underlying78
attribute [go_sem] Tryz.underlying80
attribute [go_sem] Tryz.underlying81
attribute [go_sem] Tryz.underlying82
attribute [go_sem] Tryz.underlying83
attribute [go_sem] Tryz.underlying84
attribute [go_sem] Tryz.underlying85
@[go_sem] theorem sz85 : szOf Tryz.prog 85 = some 1 := by kernel_rfl
@[go_sem] theorem ag85 : aggT Tryz.prog 85 = false := by kernel_rfl
attribute [go_sem] Tryz.underlying86
attribute [go_sem] Tryz.underlying87
@[go_sem] theorem zo88 : zerosOf Tryz.prog 88 = some [.nilS, .int .i64 0] := by kernel_rfl
attribute [go_sem] Tryz.underlying88
attribute [go_sem] Tryz.underlying89
attribute [go_sem] Tryz.underlying90
attribute [go_sem] Tryz.underlying92
attribute [go_sem] Tryz.underlying93
attribute [go_sem] Tryz.underlying94
attribute [go_sem] Tryz.underlying95
attribute [go_sem] Tryz.underlying96
attribute [go_sem] Tryz.underlying97
@[go_sem] theorem sz97 : szOf Tryz.prog 97 = some 1 := by kernel_rfl
@[go_sem] theorem ag97 : aggT Tryz.prog 97 = false := by kernel_rfl
attribute [go_sem] Tryz.underlying98
@[go_sem] theorem sz99 : szOf Tryz.prog 99 = some 3 := by kernel_rfl
@[go_sem] theorem ag99 : aggT Tryz.prog 99 = true := by kernel_rfl
@[go_sem] theorem zo99 : zerosOf Tryz.prog 99 = some [.int .i64 0, .nilF, .nilF] := by kernel_rfl
attribute [go_sem] Tryz.underlying99
attribute [go_sem] Tryz.underlying101
attribute [go_sem] Tryz.underlying102
attribute [go_sem] Tryz.underlying103
attribute [go_sem] Tryz.underlying104
attribute [go_sem] Tryz.underlying105
attribute [go_sem] Tryz.underlying106
attribute [go_sem] Tryz.underlying108
attribute [go_sem] Tryz.underlying110
attribute [go_sem] Tryz.underlying112
attribute [go_sem] Tryz.underlying113
@[go_sem] theorem el113 : elemT Tryz.prog 113 = some 3 := by kernel_rfl
attribute [go_sem] Tryz.underlying114
attribute [go_sem] Tryz.underlying115
attribute [go_sem] Tryz.underlying116
attribute [go_sem] Tryz.underlying117
attribute [go_sem] Tryz.underlying118
attribute [go_sem] Tryz.underlying119
attribute [go_sem] Tryz.underlying120
attribute [go_sem] Tryz.underlying122
attribute [go_sem] Tryz.underlying123
attribute [go_sem] Tryz.underlying124
attribute [go_sem] Tryz.underlying125
@[go_sem] theorem zv125 : zvalC Tryz.prog 9 = some (.str []) := by kernel_rfl
attribute [go_sem] Tryz.underlying126
attribute [go_sem] Tryz.underlying127
attribute [go_sem] Tryz.underlying128
attribute [go_sem] Tryz.underlying129
attribute [go_sem] Tryz.underlying131
attribute [go_sem] Tryz.underlying132
attribute [go_sem] Tryz.underlying134
attribute [go_sem] Tryz.underlying135
attribute [go_sem] Tryz.underlying136
attribute [go_sem] Tryz.underlying137
attribute [go_sem] Tryz.underlying138
attribute [go_sem] Tryz.underlying140
attribute [go_sem] Tryz.underlying141
attribute [go_sem] Tryz.underlying142
attribute [go_sem] Tryz.underlying143
attribute [go_sem] Tryz.underlying145
attribute [go_sem] Tryz.underlying146
attribute [go_sem] Tryz.underlying147
attribute [go_sem] Tryz.underlying148
attribute [go_sem] Tryz.underlying149
attribute [go_sem] Tryz.underlying150
attribute [go_sem] Tryz.underlying151
@[go_sem] theorem el151 : elemT Tryz.prog 151 = some 158 := by kernel_rfl
attribute [go_sem] Tryz.underlying152
attribute [go_sem] Tryz.underlying153
attribute [go_sem] Tryz.underlying154
attribute [go_sem] Tryz.underlying155
attribute [go_sem] Tryz.underlying156
attribute [go_sem] Tryz.underlying157
attribute [go_sem] Tryz.underlying158
attribute [go_sem] Tryz.underlying159
attribute [go_sem] Tryz.underlying161
attribute [go_sem] Tryz.underlying163
attribute [go_sem] Tryz.underlying164
attribute [go_sem] Tryz.underlying165
attribute [go_sem] Tryz.underlying166
attribute [go_sem] Tryz.underlying168
attribute [go_sem] Tryz.underlying169
attribute [go_sem] Tryz.underlying170
attribute [go_sem] Tryz.underlying171
attribute [go_sem] Tryz.underlying172
attribute [go_sem] Tryz.underlying173
attribute [go_sem] Tryz.underlying174
attribute [go_sem] Tryz.underlying175
attribute [go_sem] Tryz.underlying176
attribute [go_sem] Tryz.underlying177
attribute [go_sem] Tryz.underlying178
attribute [go_sem] Tryz.underlying179
attribute [go_sem] Tryz.underlying180
attribute [go_sem] Tryz.underlying181
attribute [go_sem] Tryz.underlying182
attribute [go_sem] Tryz.underlying183
attribute [go_sem] Tryz.underlying184
attribute [go_sem] Tryz.underlying185
attribute [go_sem] Tryz.underlying186
attribute [go_sem] Tryz.underlying187
attribute [go_sem] Tryz.underlying188
attribute [go_sem] Tryz.underlying189
attribute [go_sem] Tryz.underlying190
attribute [go_sem] Tryz.underlying191
attribute [go_sem] Tryz.underlying192
attribute [go_sem] Tryz.underlying193
@[go_sem] theorem zo194 : zerosOf Tryz.prog 194 = some [.bool false, .int .u8 0, .int .u8 0, .int .u8 0, .int .u8 0, .int .u8 0, .int .u8 0, .int .u8 0, .int .u8 0, .int .u8 0, .int .u8 0, .int .u8 0, .int .u8 0, .int .u8 0, .int .u8 0, .int .u8 0, .int .u8 0, .int .i64 0] := by kernel_rfl
attribute [go_sem] Tryz.underlying194
attribute [go_sem] Tryz.underlying195
attribute [go_sem] Tryz.underlying196
@[go_sem] theorem zo197 : zerosOf Tryz.prog 197 = some [.int .u8 0, .int .u8 0, .int .u8 0, .int .u8 0, .int .u8 0, .int .u8 0, .int .u8 0, .int .u8 0, .int .u8 0, .int .u8 0, .int .u8 0, .int .u8 0, .int .u8 0, .int .u8 0, .int .u8 0, .int .u8 0, .int .u8 0, .int .u8 0, .int .u8 0, .int .u8 0, .int .u8 0, .int .u8 0, .int .u8 0, .int .u8 0, .int .u8 0, .int .u8 0, .int .u8 0, .int .u8 0, .int .u8 0, .int .u8 0, .int .u8 0, .int .u8 0, .int .u8 0, .int .u8 0, .int .u8 0, .int .u8 0, .int .u8 0, .int .u8 0, .int .u8 0, .int .u8 0, .int .u8 0, .int .u8 0, .int .u8 0, .int .u8 0, .int .u8 0, .int .u8 0, .int .u8 0, .int .u8 0, .int .u8 0, .int .u8 0, .int .u8 0, .int .u8 0, .int .u8 0, .int .u8 0, .int .u8 0, .int .u8 0, .int .u8 0, .int .u8 0, .int .u8 0, .int .u8 0, .int .u8 0, .int .u8 0, .int .u8 0, .int .u8 0, .int .u8 0] := by kernel_rfl
attribute [go_sem] Tryz.underlying197
attribute [go_sem] Tryz.underlying198
attribute [go_sem] Tryz.underlying199
attribute [go_sem] Tryz.underlying200
attribute [go_sem] Tryz.underlying202
attribute [go_sem] Tryz.underlying203
attribute [go_sem] Tryz.underlying204
attribute [go_sem] Tryz.underlying205
attribute [go_sem] Tryz.underlying206
attribute [go_sem] Tryz.underlying207
attribute [go_sem] Tryz.underlying208
attribute [go_sem] Tryz.underlying209
attribute [go_sem] Tryz.underlying210
attribute [go_sem] Tryz.underlying211
attribute [go_sem] Tryz.underlying212
attribute [go_sem] Tryz.underlying213
attribute [go_sem] Tryz.underlying214
attribute [go_sem] Tryz.underlying215
attribute [go_sem] Tryz.underlying216
attribute [go_sem] Tryz.underlying217
attribute [go_sem] Tryz.underlying218
attribute [go_sem] Tryz.underlying219
attribute [go_sem] Tryz.underlying220
attribute [go_sem] Tryz.underlying221
attribute [go_sem] Tryz.underlying222
attribute [go_sem] Tryz.underlying223
attribute [go_sem] Tryz.underlying224
attribute [go_sem] Tryz.underlying225
attribute [go_sem] Tryz.underlying226
attribute [go_sem] Tryz.underlying227
attribute [go_sem] Tryz.underlying228
attribute [go_sem] Tryz.underlying229
attribute [go_sem] Tryz.underlying230
attribute [go_sem] Tryz.underlying231
attribute [go_sem] Tryz.underlying232
attribute [go_sem] Tryz.underlying233
attribute [go_sem] Tryz.underlying234
attribute [go_sem] Tryz.underlying235
attribute [go_sem] Tryz.underlying236
attribute [go_sem] Tryz.underlying237
attribute [go_sem] Tryz.underlying238
attribute [go_sem] Tryz.underlying239
attribute [go_sem] Tryz.underlying240
attribute [go_sem] Tryz.underlying241
attribute [go_sem] Tryz.underlying242
attribute [go_sem] Tryz.underlying243
attribute [go_sem] Tryz.underlying244
attribute [go_sem] Tryz.underlying245
attribute [go_sem] Tryz.underlying246
attribute [go_sem] Tryz.underlying247
attribute [go_sem] Tryz.underlying248
attribute [go_sem] Tryz.underlying249
attribute [go_sem] Tryz.underlying250
attribute [go_sem] Tryz.underlying251
attribute [go_sem] Tryz.underlying252
attribute [go_sem] Tryz.underlying253
attribute [go_sem] Tryz.underlying254
attribute [go_sem] Tryz.underlying255
attribute [go_sem] Tryz.underlying256
attribute [go_sem] Tryz.underlying257
attribute [go_sem] Tryz.underlying258
theorem ca4 : callable Tryz.prog 4 = true := by kernel_rfl
theorem ca6 : callable Tryz.prog 6 = true := by kernel_rfl
theorem ca7 : callable Tryz.prog 7 = true := by kernel_rfl
theorem ca8 : callable Tryz.prog 8 = true := by kernel_rfl
theorem ca9 : callable Tryz.prog 9 = true := by kernel_rfl
theorem ca12 : callable Tryz.prog 12 = true := by kernel_rfl
theorem ca13 : callable Tryz.prog 13 = true := by kernel_rfl
theorem ca14 : callable Tryz.prog 14 = true := by kernel_rfl
theorem ca15 : callable Tryz.prog 15 = true := by kernel_rfl
theorem ca16 : callable Tryz.prog 16 = true := by kernel_rfl
theorem ca17 : callable Tryz.prog 17 = true := by kernel_rfl
theorem ca18 : callable Tryz.prog 18 = true := by kernel_rfl
theorem ca19 : callable Tryz.prog 19 = true := by kernel_rfl
theorem ca20 : callable Tryz.prog 20 = true := by kernel_rfl
theorem ca21 : callable Tryz.prog 21 = true := by kernel_rfl
theorem ca23 : callable Tryz.prog 23 = true := by kernel_rfl
theorem ca24 : callable Tryz.prog 24 = true := by kernel_rfl
theorem ca25 : callable Tryz.prog 25 = true := by kernel_rfl
theorem ca26 : callable Tryz.prog 26 = true := by kernel_rfl
theorem ca29 : callable Tryz.prog 29 = true := by kernel_rfl
theorem ca30 : callable Tryz.prog 30 = true := by kernel_rfl
theorem ca31 : callable Tryz.prog 31 = true := by kernel_rfl
theorem ca32 : callable Tryz.prog 32 = true := by kernel_rfl
theorem ca33 : callable Tryz.prog 33 = true := by kernel_rfl
theorem ca34 : callable Tryz.prog 34 = true := by kernel_rfl
theorem ca35 : callable Tryz.prog 35 = true := by kernel_rfl
theorem ca36 : callable Tryz.prog 36 = true := by kernel_rfl
theorem ca37 : callable Tryz.prog 37 = true := by kernel_rfl
theorem ca38 : callable Tryz.prog 38 = true := by kernel_rfl
theorem ca39 : callable Tryz.prog 39 = true := by kernel_rfl
theorem ca42 : callable Tryz.prog 42 = true := by kernel_rfl
theorem ca44 : callable Tryz.prog 44 = true := by kernel_rfl
theorem ca49 : callable Tryz.prog 49 = true := by kernel_rfl
theorem ca51 : callable Tryz.prog 51 = true := by kernel_rfl
theorem ca52 : callable Tryz.prog 52 = true := by kernel_rfl
theorem ca53 : callable Tryz.prog 53 = true := by kernel_rfl
theorem ca54 : callable Tryz.prog 54 = true := by kernel_rfl
theorem ca55 : callable Tryz.prog 55 = true := by kernel_rfl
theorem ca56 : callable Tryz.prog 56 = true := by kernel_rfl
theorem ca57 : callable Tryz.prog 57 = true := by kernel_rfl
theorem ca58 : callable Tryz.prog 58 = true := by kernel_rfl
theorem ca59 : callable Tryz.prog 59 = true := by kernel_rfl
theorem ca60 : callable Tryz.prog 60 = true := by kernel_rfl
theorem ca68 : callable Tryz.prog 68 = true := by kernel_rfl
theorem ca69 : callable Tryz.prog 69 = true := by kernel_rfl
theorem ca70 : callable Tryz.prog 70 = true := by kernel_rfl
theorem ca71 : callable Tryz.prog 71 = true := by kernel_rfl
theorem ca72 : callable Tryz.prog 72 = true := by kernel_rfl
theorem ca73 : callable Tryz.prog 73 = true := by kernel_rfl
theorem ca74 : callable Tryz.prog 74 = true := by kernel_rfl
theorem ca75 : callable Tryz.prog 75 = true := by kernel_rfl
theorem ca76 : callable Tryz.prog 76 = true := by kernel_rfl
theorem ca77 : callable Tryz.prog 77 = true := by kernel_rfl
theorem ca78 : callable Tryz.prog 78 = true := by kernel_rfl
theorem ca79 : callable Tryz.prog 79 = true := by kernel_rfl
theorem ca80 : callable Tryz.prog 80 = true := by kernel_rfl
theorem ca81 : callable Tryz.prog 81 = true := by kernel_rfl
theorem ca82 : callable Tryz.prog 82 = true := by kernel_rfl
theorem ca84 : callable Tryz.prog 84 = true := by kernel_rfl
theorem ca85 : callable Tryz.prog 85 = true := by kernel_rfl
theorem ca86 : callable Tryz.prog 86 = true := by kernel_rfl
theorem ca87 : callable Tryz.prog 87 = true := by kernel_rfl
theorem ca88 : callable Tryz.prog 88 = true := by kernel_rfl
theorem ca89 : callable Tryz.prog 89 = true := by kernel_rfl
theorem ca90 : callable Tryz.prog 90 = true := by kernel_rfl
theorem ca93 : callable Tryz.prog 93 = true := by kernel_rfl
theorem ca94 : callable Tryz.prog 94 = true := by kernel_rfl
theorem ca95 : callable Tryz.prog 95 = true := by kernel_rfl
theorem ca96 : callable Tryz.prog 96 = true := by kernel_rfl
theorem ca97 : callable Tryz.prog 97 = true := by kernel_rfl
theorem ca98 : callable Tryz.prog 98 = true := by kernel_rfl
theorem ca99 : callable Tryz.prog 99 = true := by kernel_rfl
theorem ca100 : callable Tryz.prog 100 = true := by kernel_rfl
theorem ca107 : callable Tryz.prog 107 = true := by kernel_rfl
theorem ca108 : callable Tryz.prog 108 = true := by kernel_rfl
theorem ca110 : callable Tryz.prog 110 = true := by kernel_rfl
theorem ca113 : callable Tryz.prog 113 = true := by kernel_rfl
theorem ca114 : callable Tryz.prog 114 = true := by kernel_rfl
theorem ca117 : callable Tryz.prog 117 = true := by kernel_rfl
theorem ca118 : callable Tryz.prog 118 = true := by kernel_rfl
theorem ca119 : callable Tryz.prog 119 = true := by kernel_rfl
theorem ca120 : callable Tryz.prog 120 = true := by kernel_rfl
theorem ca121 : callable Tryz.prog 121 = true := by kernel_rfl
theorem ca123 : callable Tryz.prog 123 = true := by kernel_rfl
theorem ca124 : callable Tryz.prog 124 = true := by kernel_rfl
theorem ca125 : callable Tryz.prog 125 = true := by kernel_rfl
theorem ca126 : callable Tryz.prog 126 = true := by kernel_rfl
theorem ca127 : callable Tryz.prog 127 = true := by kernel_rfl
theorem ca128 : callable Tryz.prog 128 = true := by kernel_rfl
theorem ca129 : callable Tryz.prog 129 = true := by kernel_rfl
theorem ca130 : callable Tryz.prog 130 = true := by kernel_rfl
theorem ca131 : callable Tryz.prog 131 = true := by kernel_rfl
theorem ca136 : callable Tryz.prog 136 = true := by kernel_rfl
theorem ca137 : callable Tryz.prog 137 = true := by kernel_rfl
theorem ca140 : callable Tryz.prog 140 = true := by kernel_rfl
theorem ca144 : callable Tryz.prog 144 = true := by kernel_rfl
theorem ca155 : callable Tryz.prog 155 = true := by kernel_rfl
theorem ca160 : callable Tryz.prog 160 = true := by kernel_rfl
theorem ca161 : callable Tryz.prog 161 = true := by kernel_rfl
theorem ca173 : callable Tryz.prog 173 = true := by kernel_rfl
theorem ca174 : callable Tryz.prog 174 = true := by kernel_rfl
theorem ca176 : callable Tryz.prog 176 = true := by kernel_rfl
end Go.Proofs.YtcbdghgogmcllaaGreatDoor
end
section
namespace Go.Proofs.YtcbdghgogmcllaaGreatDoor
open Go Go.Sy
theorem bytes_mid (l m : List UInt8) (x : UInt8) : l.map byteC ++ byteC x :: m.map byteC = (l ++ x :: m).map byteC := by simp
section
variable {α : Type} {l m : List α} {n : Nat}
theorem take_all (h : l.length ≤ n) : l.take n = l := List.take_of_length_le h
theorem drop_all (h : l.length ≤ n) : l.drop n = [] := List.drop_eq_nil_of_le h
theorem take_app (h : l.length ≤ n) : (l ++ m).take n = l ++ m.take (n - l.length) := by rw [List.take_append, List.take_of_length_le h]
theorem drop_app (h : l.length ≤ n) : (l ++ m).drop n = m.drop (n - l.length) := by rw [List.drop_append, List.drop_eq_nil_of_le h, List.nil_append]
theorem take_app' (h : n ≤ l.length) : (l ++ m).take n = l.take n := List.take_append_of_le_length h
theorem drop_app' (h : n ≤ l.length) : (l ++ m).drop n = l.drop n ++ m := List.drop_append_of_le_length h
end
section
variable {l : List UInt8} {m : List CV} {n : Nat}
theorem take_bapp (h : l.length ≤ n) : (l.map byteC ++ m).take n = l.map byteC ++ m.take (n - l.length) := by rw [take_app (by simpa using h)]; simp
theorem drop_bapp (h : l.length ≤ n) : (l.map byteC ++ m).drop n = m.drop (n - l.length) := by rw [drop_app (by simpa using h)]; simp
theorem take_bapp' (h : n ≤ l.length) : (l.map byteC ++ m).take n = (l.take n).map byteC := by rw [take_app' (by simpa using h), bytes_take]
theorem drop_bapp' (h : n ≤ l.length) : (l.map byteC ++ m).drop n = (l.drop n).map byteC ++ m := by rw [drop_app' (by simpa using h), bytes_drop]
end
attribute [go_sem] take_all drop_all take_app drop_app take_app' drop_app' take_bapp drop_bapp take_bapp' drop_bapp'
theorem fdivL0 (a : Int) : a.fdiv 1 = a / 1 := Int.fdiv_eq_ediv_of_nonneg a (by omega)
theorem fdivL1 (a : Int) : a.fdiv 2 = a / 2 := Int.fdiv_eq_ediv_of_nonneg a (by omega)
theorem fdivL2 (a : Int) : a.fdiv 4 = a / 4 := Int.fdiv_eq_ediv_of_nonneg a (by omega)
theorem fdivL3 (a : Int) : a.fdiv 8 = a / 8 := Int.fdiv_eq_ediv_of_nonneg a (by omega)
theorem fdivL4 (a : Int) : a.fdiv 16 = a / 16 := Int.fdiv_eq_ediv_of_nonneg a (by omega)
theorem fdivL5 (a : Int) : a.fdiv 32 = a / 32 := Int.fdiv_eq_ediv_of_nonneg a (by omega)
theorem fdivL6 (a : Int) : a.fdiv 64 = a / 64 := Int.fdiv_eq_ediv_of_nonneg a (by omega)
theorem fdivL7 (a : Int) : a.fdiv 128 = a / 128 := Int.fdiv_eq_ediv_of_nonneg a (by omega)
theorem fdivL8 (a : Int) : a.fdiv 256 = a / 256 := Int.fdiv_eq_ediv_of_nonneg a (by omega)
theorem fdivL9 (a : Int) : a.fdiv 512 = a / 512 := Int.fdiv_eq_ediv_of_nonneg a (by omega)
theorem fdivL10 (a : Int) : a.fdiv 1024 = a / 1024 := Int.fdiv_eq_ediv_of_nonneg a (by omega)
theorem fdivL11 (a : Int) : a.fdiv 2048 = a / 2048 := Int.fdiv_eq_ediv_of_nonneg a (by omega)
theorem fdivL12 (a : Int) : a.fdiv 4096 = a / 4096 := Int.fdiv_eq_ediv_of_nonneg a (by omega)
theorem fdivL13 (a : Int) : a.fdiv 8192 = a / 8192 := Int.fdiv_eq_ediv_of_nonneg a (by omega)
theorem fdivL14 (a : Int) : a.fdiv 16384 = a / 16384 := Int.fdiv_eq_ediv_of_nonneg a (by omega)
theorem fdivL15 (a : Int) : a.fdiv 32768 = a / 32768 := Int.fdiv_eq_ediv_of_nonneg a (by omega)
theorem fdivL16 (a : Int) : a.fdiv 65536 = a / 65536 := Int.fdiv_eq_ediv_of_nonneg a (by omega)
theorem fdivL24 (a : Int) : a.fdiv 16777216 = a / 16777216 := Int.fdiv_eq_ediv_of_nonneg a (by omega)
theorem fdivL31 (a : Int) : a.fdiv 2147483648 = a / 2147483648 := Int.fdiv_eq_ediv_of_nonneg a (by omega)
theorem fdivL32 (a : Int) : a.fdiv 4294967296 = a / 4294967296 := Int.fdiv_eq_ediv_of_nonneg a (by omega)
theorem fdivL40 (a : Int) : a.fdiv 1099511627776 = a / 1099511627776 := Int.fdiv_eq_ediv_of_nonneg a (by omega)
theorem fdivL48 (a : Int) : a.fdiv 281474976710656 = a / 281474976710656 := Int.fdiv_eq_ediv_of_nonneg a (by omega)
theorem fdivL56 (a : Int) : a.fdiv 72057594037927936 = a / 72057594037927936 := Int.fdiv_eq_ediv_of_nonneg a (by omega)
theorem fdivL62 (a : Int) : a.fdiv 4611686018427387904 = a / 4611686018427387904 := Int.fdiv_eq_ediv_of_nonneg a (by omega)
theorem fdivL63 (a : Int) : a.fdiv 9223372036854775808 = a / 9223372036854775808 := Int.fdiv_eq_ediv_of_nonneg a (by omega)
attribute [go_sem] fdivL0 fdivL1 fdivL2 fdivL3 fdivL4 fdivL5 fdivL6 fdivL7 fdivL8 fdivL9 fdivL10 fdivL11 fdivL12 fdivL13 fdivL14 fdivL15 fdivL16 fdivL24 fdivL31 fdivL32 fdivL40 fdivL48 fdivL56 fdivL62 fdivL63
theorem head_bytes {l : List UInt8} (h : 0 < l.length) : (l.map byteC).head? = some (byteC l[0]) := by cases l with | nil => simp at h | cons x l => rfl
attribute [go_sem] head_bytes
theorem toNat_ediv' {a b : Int} (ha : 0 ≤ a) (hb : 0 ≤ b) : (a / b).toNat = a.toNat / b.toNat := by
  obtain ⟨m, rfl⟩ := Int.eq_ofNat_of_zero_le ha; obtain ⟨n, rfl⟩ := Int.eq_ofNat_of_zero_le hb
  rw [← Int.natCast_ediv, Int.toNat_natCast, Int.toNat_natCast, Int.toNat_natCast]
theorem toNat_emod' {a b : Int} (ha : 0 ≤ a) (hb : 0 ≤ b) : (a % b).toNat = a.toNat % b.toNat := by
  obtain ⟨m, rfl⟩ := Int.eq_ofNat_of_zero_le ha; obtain ⟨n, rfl⟩ := Int.eq_ofNat_of_zero_le hb
  rw [← Int.natCast_emod, Int.toNat_natCast, Int.toNat_natCast, Int.toNat_natCast]
theorem toNat_succ' {a : Int} (ha : 0 ≤ a) : (a + 1).toNat = a.toNat + 1 := by omega
attribute [go_sem] toNat_ediv' toNat_emod' toNat_succ'
theorem i64_or_nat (a b : Nat) (ha : a < 9223372036854775808) (hb : b < 9223372036854775808) : bits .or .i64 (a : Int) (b : Int) = ((a ||| b : Nat) : Int) := by
  have hx : a ||| b < 2 ^ 63 := Nat.or_lt_two_pow (by omega) (by omega)
  show IntKind.i64.wrap ((BitVec.ofInt 64 (a : Int) ||| BitVec.ofInt 64 (b : Int)).toNat : Int) = _
  rw [BitVec.toNat_or, ofInt_u64 a (by omega), ofInt_u64 b (by omega), wi64 (by omega)]
def Grow (B0 : List Box) (sz : Nat) (c : CV) (B : List Box) (n : Nat) (cells : List CV) : Prop :=
  cells.length = n * sz ∧ ((n = 0 ∧ (c = .nilS ∨ c = .lst 0 [] true) ∧ B = B0) ∨ (0 < n ∧ ∃ m, c = .view B0.length 0 n sz false ∧ B = B0 ++ [⟨cells, m⟩]))
theorem Grow.nil (B0 : List Box) (sz : Nat) : Grow B0 sz .nilS B0 0 [] := ⟨by simp, .inl ⟨rfl, .inl rfl, rfl⟩⟩
theorem Grow.empty (B0 : List Box) (sz : Nat) : Grow B0 sz (.lst 0 [] true) B0 0 [] := ⟨by simp, .inl ⟨rfl, .inr rfl, rfl⟩⟩
theorem Grow.app {P : Program} {e : TypeId} {B0 : List Box} {sz : Nat} {c : CV} {B : List Box} {n : Nat} {cells : List CV} (h : Grow B0 sz c B n cells) (x : CV) (m : Nat) (news : List CV) (hx : srcC B sz x = some (m, news)) (hm : news.length = m * sz)
    (hb : (n + m) * P.bytesOf e ≤ 140737488355328 ∧ n + m ≤ 140737488355328) : ∃ c' B', appendK P e sz B c x = some (c', B') ∧ Grow B0 sz c' B' (n + m) (cells ++ news) := by
  obtain ⟨hl, h⟩ := h
  rcases Nat.eq_zero_or_pos m with rfl | hp
  · have hnil : news = [] := List.eq_nil_of_length_eq_zero (by simpa using hm)
    subst hnil
    refine ⟨c, B, ?_, by simpa using hl, by simpa using h⟩
    simp only [appendK]
    rcases h with ⟨_, rfl | rfl, _⟩ | ⟨_, _, rfl, _⟩ <;> simp [hx, appendM_nilS, appendM_lst, appendM_view]
  · rcases h with ⟨rfl, rfl | rfl, rfl⟩ | ⟨h0, k, rfl, rfl⟩
    · have hc : cells = [] := List.eq_nil_of_length_eq_zero (by simpa using hl)
      subst hc
      refine ⟨.view B.length 0 m sz false, B ++ [{ cells := news }], ?_, by simpa using hm, .inr ⟨by omega, false, by simp, by simp⟩⟩
      simp only [appendK]
      rw [Nat.zero_add] at hb
      simp [hx, appendM_nilS, appendM_lst, appendM_view, Nat.pos_iff_ne_zero.1 hp, hb]
    · have hc : cells = [] := List.eq_nil_of_length_eq_zero (by simpa using hl)
      subst hc
      refine ⟨.view B.length 0 m sz false, B ++ [{ cells := news }], ?_, by simpa using hm, .inr ⟨by omega, false, by simp, by simp⟩⟩
      simp only [appendK]
      rw [Nat.zero_add] at hb
      simp [hx, appendM_nilS, appendM_lst, appendM_view, Nat.pos_iff_ne_zero.1 hp, hb]
    · refine ⟨.view B0.length 0 (n + m) sz false, B0 ++ [⟨cells ++ news, true⟩], ?_, by simp [hl, hm, Nat.add_mul], .inr ⟨by omega, true, rfl, rfl⟩⟩
      simp only [appendK]
      simp [hx, appendM_nilS, appendM_lst, appendM_view, Nat.pos_iff_ne_zero.1 hp, hb, hl]
theorem Grow.fz {B0 : List Box} {sz : Nat} {c : CV} {B : List Box} {n : Nat} {cells : List CV} (h : Grow B0 sz c B n cells) (k : Nat) (hs : omap (fz true true B k) cells = some cells) : fz true true B (k + 1) c = some (.lst n cells false) := by
  obtain ⟨hl, ⟨rfl, rfl | rfl, rfl⟩ | ⟨h0, m, rfl, rfl⟩⟩ := h
  · have : cells = [] := List.eq_nil_of_length_eq_zero (by simpa using hl)
    subst this; simp [fz_nilS]
  · have : cells = [] := List.eq_nil_of_length_eq_zero (by simpa using hl)
    subst this; simp [fz_lst, omap_nil]
  · rw [fz_view]
    simp only [List.getElem?_concat_length, List.drop_zero]
    rw [List.take_of_length_le (by omega), hs]; simp
theorem omap_app {f : CV → Option CV} : ∀ {a b : List CV}, omap f (a ++ b) = (omap f a).bind fun x => (omap f b).map (x ++ ·)
  | [], b => by rw [List.nil_append, omap_nil]; cases omap f b <;> rfl
  | c :: a, b => by rw [List.cons_append, omap_two, omap_two, omap_app]; cases f c <;> cases omap f a <;> cases omap f b <;> rfl
attribute [go_sem] omap_app
abbrev GrowB (B0 : List Box) (c : CV) (B : List Box) (l : List UInt8) : Prop := Grow B0 1 c B l.length (l.map byteC)
theorem GrowB.app {P : Program} {e : TypeId} {B0 : List Box} {c : CV} {B : List Box} {l : List UInt8} (h : GrowB B0 c B l) (x : CV) (m : List UInt8) (hx : srcC B 1 x = some (m.length, m.map byteC)) (he : P.bytesOf e = 1) (hb : l.length + m.length ≤ 140737488355328) :
    ∃ c' B', appendK P e 1 B c x = some (c', B') ∧ GrowB B0 c' B' (l ++ m) := by
  obtain ⟨c', B', h1, h2⟩ := Grow.app (P := P) (e := e) h x m.length (m.map byteC) hx (by simp) (by rw [he]; omega)
  exact ⟨c', B', h1, by simpa [GrowB] using h2⟩
theorem GrowB.fz {B0 : List Box} {c : CV} {B : List Box} {l : List UInt8} (h : GrowB B0 c B l) (k : Nat) : Go.Sy.fz true true B (k + 2) c = some (lb l) := Grow.fz h (k + 1) (omap_bytes l)
end Go.Proofs.YtcbdghgogmcllaaGreatDoor
end
section
namespace Go.Proofs.YtcbdghgogmcllaaGreatDoor
open Go Go.Sy
section
variable {α : Type} {f : α → List CV} {n : Nat}
theorem fl_len : ∀ {l : List α}, (∀ a ∈ l, (f a).length = n) → (l.flatMap f).length = l.length * n
  | [], _ => by simp
  | a :: l, hf => by rw [List.flatMap_cons, List.length_append, fl_len fun b hb => hf b (by simp [hb]), hf a (by simp), List.length_cons, Nat.succ_mul, Nat.add_comm]
theorem fl_drop : ∀ {l : List α} (i : Nat), (∀ a ∈ l, (f a).length = n) → (l.flatMap f).drop (i * n) = (l.drop i).flatMap f
  | l, 0, _ => by simp
  | [], i + 1, _ => by simp
  | a :: l, i + 1, hf => by
    rw [List.flatMap_cons, List.drop_succ_cons, Nat.succ_mul, Nat.add_comm, ← List.drop_drop, List.drop_left' (hf a (by simp)), fl_drop i fun b hb => hf b (by simp [hb])]
theorem fl_take : ∀ {l : List α} (i : Nat), (∀ a ∈ l, (f a).length = n) → (l.flatMap f).take (i * n) = (l.take i).flatMap f
  | l, 0, _ => by simp
  | [], i + 1, _ => by simp
  | a :: l, i + 1, hf => by
    have ha := hf a (by simp)
    rw [List.flatMap_cons, List.take_succ_cons, List.flatMap_cons, Nat.succ_mul, Nat.add_comm, List.take_append, List.take_of_length_le (by rw [ha]; omega), ha, Nat.add_sub_cancel_left, fl_take i fun b hb => hf b (by simp [hb])]
theorem fl_get {l : List α} (hf : ∀ a ∈ l, (f a).length = n) (i : Nat) (h : i < l.length) : ((l.flatMap f).drop (i * n)).take n = f l[i] := by
  rw [fl_drop i hf, List.drop_eq_getElem_cons h, List.flatMap_cons, List.take_left' (hf _ (List.getElem_mem h))]
end
end Go.Proofs.YtcbdghgogmcllaaGreatDoor
end
section
namespace Go.Proofs.YtcbdghgogmcllaaGreatDoor
open Go Go.Sy
section
variable {L X : List Box} {n i : Nat} {y : Box}
theorem bx_get0 (h : L.length = n) : (L ++ X)[n]? = X[0]? := by subst h; rw [List.getElem?_append_right (Nat.le_refl _), Nat.sub_self]
theorem bx_get (h : L.length = n) : (L ++ X)[n + i]? = X[i]? := by subst h; rw [List.getElem?_append_right (by omega), Nat.add_sub_cancel_left]
theorem bx_getL (h : n < L.length) : (L ++ X)[n]? = L[n]? := List.getElem?_append_left h
theorem bx_set0 (h : L.length = n) : (L ++ X).set n y = L ++ X.set 0 y := by subst h; rw [List.set_append_right _ _ (Nat.le_refl _), Nat.sub_self]
theorem bx_set (h : L.length = n) : (L ++ X).set (n + i) y = L ++ X.set i y := by subst h; rw [List.set_append_right _ _ (by omega), Nat.add_sub_cancel_left]
theorem bx_setL (h : n < L.length) : (L ++ X).set n y = L.set n y ++ X := List.set_append_left _ _ h
theorem bx_self (h : n < L.length) : (L.set n y)[n]? = some y := List.getElem?_set_self h
theorem bx_same (h : L[n]? = some y) : L.set n y = L := by
  obtain ⟨h1, rfl⟩ := List.getElem?_eq_some_iff.1 h
  exact List.set_getElem_self h1
end
theorem bx_pack {B : List Box} {β : Nat} {b : Box} (hB : B[β]? = some b) : (∀ X, (B ++ X)[β]? = some b) ∧ (∀ X y, (B ++ X).set β y = B.set β y ++ X) ∧ (∀ y, (B.set β y)[β]? = some y) ∧ (∀ y X, (B.set β y ++ X)[β]? = some y) ∧ (∀ y z X, (B.set β y ++ X).set β z = B.set β z ++ X) ∧
    (∀ y X, (B.set β y ++ X)[B.length]? = X[0]?) ∧ (∀ y X i, (B.set β y ++ X)[B.length + i]? = X[i]?) ∧ (∀ y z X, (B.set β y ++ X).set B.length z = B.set β y ++ X.set 0 z) ∧ (∀ y z X i, (B.set β y ++ X).set (B.length + i) z = B.set β y ++ X.set i z) ∧
    (∀ X, (B ++ X)[B.length]? = X[0]?) ∧ (∀ X i, (B ++ X)[B.length + i]? = X[i]?) ∧ (∀ z X, (B ++ X).set B.length z = B ++ X.set 0 z) ∧ (∀ z X i, (B ++ X).set (B.length + i) z = B ++ X.set i z) := by
  have h := (List.getElem?_eq_some_iff.1 hB).1
  refine ⟨fun X => by rw [bx_getL h, hB], fun X y => bx_setL h, fun y => bx_self h, fun y X => by rw [bx_getL (by simpa using h), bx_self h], fun y z X => by rw [bx_setL (by simpa using h), List.set_set],
    fun y X => bx_get0 (by simp), fun y X i => bx_get (by simp), fun y z X => bx_set0 (by simp), fun y z X i => bx_set (by simp), fun X => bx_get0 rfl, fun X i => bx_get rfl, fun z X => bx_set0 rfl, fun z X i => bx_set rfl⟩
def Hid (p : Prop) : Prop := p
def Cells {α : Type} (f : α → List CV) (z : Nat) (cs : List CV) (L : List α) : Prop := ∀ (i : Nat) (h : i < L.length), i * z + z ≤ cs.length ∧ (cs.drop (i * z)).take z = f L[i]
theorem cells_pre {α : Type} {f : α → List CV} {z : Nat} {A L : List α} (hf : ∀ a ∈ A, (f a).length = z) (h : A.take L.length = L) : Cells f z (A.flatMap f) L := by
  intro i hi
  have hl : L.length ≤ A.length := by have := congrArg List.length h; rw [List.length_take] at this; omega
  have e : A[i]'(by omega) = L[i] := by
    have : (A.take L.length)[i]'(by rw [h]; exact hi) = L[i] := by congr 1
    rw [← this, List.getElem_take]
  refine ⟨?_, by rw [fl_get hf i (by omega), e]⟩
  rw [fl_len hf, ← Nat.succ_mul]
  exact Nat.mul_le_mul_right _ (by omega)
theorem cells_all {α : Type} {f : α → List CV} {z : Nat} {L : List α} (hf : ∀ a ∈ L, (f a).length = z) : Cells f z (L.flatMap f) L := cells_pre hf (List.take_length ..)
structure Row {α : Type} (f : α → List CV) (z : Nat) (B : List Box) (s : CV) (L : List α) : Prop where
  small : L.length < 1099511627776
  at_ : ∃ cs, Cells f z cs L ∧ ((∃ fl, s = .lst L.length cs fl) ∨ (∃ b cap, s = .cview b 0 L.length cap z ∧ B[b]? = some ⟨cs, false⟩) ∨ ∃ b fl m, s = .view b 0 L.length z fl ∧ B[b]? = some ⟨cs, m⟩)
structure Kept (b : Nat) (B W : List Box) : Prop where
  len : B.length ≤ W.length
  same : ∀ β, β ≠ b → β < B.length → W[β]? = B[β]?
end Go.Proofs.YtcbdghgogmcllaaGreatDoor
end
section
namespace Go.Proofs.YtcbdghgogmcllaaGreatDoor
open Go Go.Sy
theorem kE_K00 {α : Type} {x y : α} (h : Is x y := by first | ((try simp (disch := first | omega | (simp only [yZ, yB] <;> omega) | fail) [go_sem, yY, *, cb, if_pos, if_neg, -List.map_take, -List.map_drop, -List.map_append, -List.map_reverse]); exact rfl) | fail) : Is x y := h
theorem kD_K00 {p : Prop} (h : p := by (first | omega | assumption | exact rfl | ((simp (disch := first | omega | (simp only [yZ, yB] <;> omega) | fail) [go_sem, yY, *, cb, -List.map_take, -List.map_drop, -List.map_append, -List.map_reverse]) <;> (first | done | omega | exact rfl)) | fail)) : p := h
theorem wB_K00 {p q : Prop} (k : q) (h : Hq q → p := by (intro k; (repeat' (first | (with_reducible first | apply jA | apply jB | apply jC | apply jD | apply jE | apply jF | apply jG | apply jH | apply jI | apply jJ | apply jK | apply jL | apply jM | apply jN | apply jO) | ((with_reducible first | apply jP | apply jQ); rfl) | ((first | ((with_reducible first | apply jR | apply jS | apply jT); rfl; rfl) | (with_reducible first | apply jU | apply jV | apply jW) | ((with_reducible first | apply jX | apply jY | apply jZ); rfl) | ((with_reducible first | apply kA | apply kB | apply kC); rfl)); all_goals (first | ((with_reducible show Is _ _); exact kE_K00) | ((with_reducible refine fun (hc : (_ : Bool) = _) => ?_); (try simp only [xZ, xY, xP, reduceCtorEq] at hc); (try (have hx : True := hc; clear hx hc)); (try exact kX)) | ((with_reducible show ACall _ _ _ _ _); (first | ((with_reducible apply c0) <;> exact kD_K00) | ((with_reducible apply c1) <;> exact kD_K00) | ((with_reducible apply c2) <;> exact kD_K00) | ((with_reducible apply c3) <;> exact kD_K00) | ((with_reducible apply c4) <;> exact kD_K00) | ((with_reducible apply c5) <;> exact kD_K00) | ((with_reducible apply c6) <;> exact kD_K00) | ((with_reducible apply c7) <;> exact kD_K00))) | ((fail_if_success (with_reducible first | show Is _ _ | show ACall _ _ _ _ _)); (try ((with_reducible show _ ∨ _); exact kT))))) | (((with_reducible first | apply o_callQ | apply q_callQ); rfl); (iterate 2 exact kE_K00); (first | ((with_reducible apply q0) <;> exact kD_K00))))); exact hq k)) : p := h ⟨k⟩
theorem w_K001 {A0 p q : Prop} (c0 : A0) (k : q) (h : A0 → Hq q → p := by (intro c0 k; exact wB_K00 (hq k))) : p := h c0 ⟨k⟩
def cb (l : List UInt8) (a : Nat) : Box := ⟨[.lst l.length (l.map byteC) false, .int .i64 a], false⟩
def nxV (l : List UInt8) (a n : Nat) : Nat := if a < l.length ∧ 0 < n then (l.getD a 0).toNat % n else 0
def nxA (l : List UInt8) (a n : Nat) : Nat := if a < l.length ∧ 0 < n then a + 1 else a
theorem nxA_le {l : List UInt8} {a n : Nat} (h : a ≤ l.length) : nxA l a n ≤ l.length := by unfold nxA; split <;> omega
theorem nxV_lt {l : List UInt8} {a n : Nat} (h : 0 < n) : nxV l a n < n := by unfold nxV; split; exact Nat.mod_lt _ h; exact h
theorem new_at {B : List Box} {args : List CV} {l : List UInt8} {n : Nat} (ha : Is args [.lst l.length (l.map byteC) false, .int .i64 n]) (hl : l.length < 9223372036854775808) : ACall Tryz.prog 19 args B fun c B' => c = .ptr B.length 0 ∧ B' = B ++ [cb (l.take n) 0] := by
  have ha : args = _ := ha
  subst ha
  have e : (min (l.length : Int) n).toNat = min n l.length := by omega
  have e2 : l.take (min n l.length) = l.take n := by
    rcases Nat.le_total n l.length with h | h
    · rw [Nat.min_eq_left h]
    · rw [Nat.min_eq_right h, List.take_of_length_le (by omega), List.take_of_length_le (by omega)]
  refine acall_intro mixed Tryz.func19 rfl ca19 (by kernel_rfl) (by rw [Tryz.ntmps19]; simp) ?_
  refine w0 ?_ 
  refine ⟨rfl, ?_⟩
  rw [cb, List.length_take]
  rfl
theorem left_at {B : List Box} {β : Nat} {args : List CV} {l : List UInt8} {a : Nat} (ha : Is args [.ptr β 0]) (hB : B[β]? = some (cb l a)) : ACall Tryz.prog 38 args B fun c B' => c = .bool (decide (a < l.length)) ∧ B' = B := by
  have ha : args = _ := ha
  subst ha
  rw [cb] at hB
  refine acall_intro mixed Tryz.func38 rfl ca38 (by kernel_rfl) (by rw [Tryz.ntmps38]; simp) ?_
  refine w0 ?_ 
  exact ⟨rfl, rfl⟩
theorem next_at {B : List Box} {β : Nat} {args : List CV} {l : List UInt8} {a n : Nat} {m : Int} (ha : Is args [.ptr β 0, .int .i64 m]) (hm : m = n) (hB : B[β]? = some (cb l a)) (hl : a ≤ l.length ∧ l.length < 4611686018427387904) : ACall Tryz.prog 37 args B fun c B' => c = .int .i64 (nxV l a n) ∧ B' = B.set β (cb l (nxA l a n)) := by
  have ha : args = _ := ha
  subst ha hm
  have hs : ∀ y, (B.set β y)[β]? = some y := fun y => bx_self (List.getElem?_eq_some_iff.1 hB).1
  have hl1 : ∀ {B : List Box} {args : List CV}, Is args [.ptr β 0] → B[β]? = some (cb l a) → ACall Tryz.prog 38 args B fun c B' => c = .bool (decide (a < l.length)) ∧ B' = B := fun h h2 => left_at h h2
  refine acall_intro mixed Tryz.func37 rfl ca37 (by kernel_rfl) (by rw [Tryz.ntmps37]; simp) ?_
  by_cases h : a < l.length ∧ 0 < n
  · rw [nxV, nxA, if_pos h, if_pos h]
    obtain ⟨h1, h2⟩ := h
    rw [cb] at hB
    refine w_K001 @hl1 ?_ 
    rw [List.getD_eq_getElem?_getD, List.getElem?_eq_getElem h1, Option.getD_some, cb]
    exact ⟨rfl, rfl⟩
  · rw [nxV, nxA, if_neg h, if_neg h, bx_same hB]
    by_cases h1 : a < l.length
    · have : n = 0 := by omega
      subst this
      refine w1 @hl1 ?_ 
      all_goals exact ⟨rfl, rfl⟩
    · refine w1 @hl1 ?_ 
      all_goals exact ⟨rfl, rfl⟩
end Go.Proofs.YtcbdghgogmcllaaGreatDoor
end
section
namespace Go.Proofs.YtcbdghgogmcllaaGreatDoor
open Go Go.Sy
theorem kE_GD0 {α : Type} {x y : α} (h : Is x y := by first | ((try simp (disch := first | omega | (simp only [yZ, yB] <;> omega) | fail) [go_sem, yY, *, addrC, if_pos, if_neg, -List.map_take, -List.map_drop, -List.map_append, -List.map_reverse]); exact rfl) | fail) : Is x y := h
theorem kD_GD0 {p : Prop} (h : p := by (first | omega | assumption | exact rfl | ((simp (disch := first | omega | (simp only [yZ, yB] <;> omega) | fail) [go_sem, yY, *, addrC, -List.map_take, -List.map_drop, -List.map_append, -List.map_reverse]) <;> (first | done | omega | exact rfl)) | fail)) : p := h
theorem kE_GD1 {α : Type} {x y : α} (h : Is x y := by first | ((try simp (disch := first | omega | (simp only [yZ, yB] <;> omega) | fail) [go_sem, yY, *, u8_ones, cons_get1, cons_take1, cons_drop1, cons_drop2, if_pos, if_neg, -List.map_take, -List.map_drop, -List.map_append, -List.map_reverse]); exact rfl) | fail) : Is x y := h
theorem kD_GD1 {p : Prop} (h : p := by (first | omega | assumption | exact rfl | ((simp (disch := first | omega | (simp only [yZ, yB] <;> omega) | fail) [go_sem, yY, *, u8_ones, cons_get1, cons_take1, cons_drop1, cons_drop2, -List.map_take, -List.map_drop, -List.map_append, -List.map_reverse]) <;> (first | done | omega | exact rfl)) | fail)) : p := h
theorem kE_GD2 {α : Type} {x y : α} (h : Is x y := by first | ((try simp (disch := first | omega | (simp only [yZ, yB] <;> omega) | fail) [go_sem, yY, *, addrC, zeros12, if_pos, if_neg, -List.map_take, -List.map_drop, -List.map_append, -List.map_reverse]); exact rfl) | fail) : Is x y := h
theorem kD_GD2 {p : Prop} (h : p := by (first | omega | assumption | exact rfl | ((simp (disch := first | omega | (simp only [yZ, yB] <;> omega) | fail) [go_sem, yY, *, addrC, zeros12, -List.map_take, -List.map_drop, -List.map_append, -List.map_reverse]) <;> (first | done | omega | exact rfl)) | fail)) : p := h
theorem kE_GD3 {α : Type} {x y : α} (h : Is x y := by first | ((try simp (disch := first | omega | (simp only [yZ, yB] <;> omega) | fail) [go_sem, yY, *, prefC, if_pos, if_neg, -List.map_take, -List.map_drop, -List.map_append, -List.map_reverse]); exact rfl) | fail) : Is x y := h
theorem kD_GD3 {p : Prop} (h : p := by (first | omega | assumption | exact rfl | ((simp (disch := first | omega | (simp only [yZ, yB] <;> omega) | fail) [go_sem, yY, *, prefC, -List.map_take, -List.map_drop, -List.map_append, -List.map_reverse]) <;> (first | done | omega | exact rfl)) | fail)) : p := h
theorem wB_GD0 {p q : Prop} (k : q) (h : Hq q → p := by (intro k; (repeat' (first | (with_reducible first | apply jA | apply jB | apply jC | apply jD | apply jE | apply jF | apply jG | apply jH | apply jI | apply jJ | apply jK | apply jL | apply jM | apply jN | apply jO) | ((with_reducible first | apply jP | apply jQ); rfl) | ((first | ((with_reducible first | apply jR | apply jS | apply jT); rfl; rfl) | (with_reducible first | apply jU | apply jV | apply jW) | ((with_reducible first | apply jX | apply jY | apply jZ); rfl) | ((with_reducible first | apply kA | apply kB | apply kC); rfl)); all_goals (first | ((with_reducible show Is _ _); exact kE_GD0) | ((with_reducible refine fun (hc : (_ : Bool) = _) => ?_); (try simp only [xZ, xY, xP, reduceCtorEq] at hc); (try (have hx : True := hc; clear hx hc)); (try exact kX)) | ((with_reducible show ACall _ _ _ _ _); (first | ((with_reducible apply c0) <;> exact kD_GD0) | ((with_reducible apply c1) <;> exact kD_GD0) | ((with_reducible apply c2) <;> exact kD_GD0) | ((with_reducible apply c3) <;> exact kD_GD0) | ((with_reducible apply c4) <;> exact kD_GD0) | ((with_reducible apply c5) <;> exact kD_GD0) | ((with_reducible apply c6) <;> exact kD_GD0) | ((with_reducible apply c7) <;> exact kD_GD0))) | ((fail_if_success (with_reducible first | show Is _ _ | show ACall _ _ _ _ _)); (try ((with_reducible show _ ∨ _); exact kT))))) | (((with_reducible first | apply o_callQ | apply q_callQ); rfl); (iterate 2 exact kE_GD0); (first | ((with_reducible apply q0) <;> exact kD_GD0))))); exact hq k)) : p := h ⟨k⟩
theorem wB_GD1 {p q : Prop} (k : q) (h : Hq q → p := by (intro k; (repeat' (first | (with_reducible first | apply jA | apply jB | apply jC | apply jD | apply jE | apply jF | apply jG | apply jH | apply jI | apply jJ | apply jK | apply jL | apply jM | apply jN | apply jO) | ((with_reducible first | apply jP | apply jQ); rfl) | ((first | ((with_reducible first | apply jR | apply jS | apply jT); rfl; rfl) | (with_reducible first | apply jU | apply jV | apply jW) | ((with_reducible first | apply jX | apply jY | apply jZ); rfl) | ((with_reducible first | apply kA | apply kB | apply kC); rfl)); all_goals (first | ((with_reducible show Is _ _); exact kE_GD1) | ((with_reducible refine fun (hc : (_ : Bool) = _) => ?_); (try simp only [xZ, xY, xP, reduceCtorEq] at hc); (try (have hx : True := hc; clear hx hc)); (try exact kX)) | ((with_reducible show ACall _ _ _ _ _); (first | ((with_reducible apply c0) <;> exact kD_GD1) | ((with_reducible apply c1) <;> exact kD_GD1) | ((with_reducible apply c2) <;> exact kD_GD1) | ((with_reducible apply c3) <;> exact kD_GD1) | ((with_reducible apply c4) <;> exact kD_GD1) | ((with_reducible apply c5) <;> exact kD_GD1) | ((with_reducible apply c6) <;> exact kD_GD1) | ((with_reducible apply c7) <;> exact kD_GD1))) | ((fail_if_success (with_reducible first | show Is _ _ | show ACall _ _ _ _ _)); (try ((with_reducible show _ ∨ _); exact kT))))) | (((with_reducible first | apply o_callQ | apply q_callQ); rfl); (iterate 2 exact kE_GD1); (first | ((with_reducible apply q0) <;> exact kD_GD1))))); exact hq k)) : p := h ⟨k⟩
theorem wB_GD2 {p q : Prop} (k : q) (h : Hq q → p := by (intro k; (repeat' (first | (with_reducible first | apply jA | apply jB | apply jC | apply jD | apply jE | apply jF | apply jG | apply jH | apply jI | apply jJ | apply jK | apply jL | apply jM | apply jN | apply jO) | ((with_reducible first | apply jP | apply jQ); rfl) | ((first | ((with_reducible first | apply jR | apply jS | apply jT); rfl; rfl) | (with_reducible first | apply jU | apply jV | apply jW) | ((with_reducible first | apply jX | apply jY | apply jZ); rfl) | ((with_reducible first | apply kA | apply kB | apply kC); rfl)); all_goals (first | ((with_reducible show Is _ _); exact kE_GD2) | ((with_reducible refine fun (hc : (_ : Bool) = _) => ?_); (try simp only [xZ, xY, xP, reduceCtorEq] at hc); (try (have hx : True := hc; clear hx hc)); (try exact kX)) | ((with_reducible show ACall _ _ _ _ _); (first | ((with_reducible apply c0) <;> exact kD_GD2) | ((with_reducible apply c1) <;> exact kD_GD2) | ((with_reducible apply c2) <;> exact kD_GD2) | ((with_reducible apply c3) <;> exact kD_GD2) | ((with_reducible apply c4) <;> exact kD_GD2) | ((with_reducible apply c5) <;> exact kD_GD2) | ((with_reducible apply c6) <;> exact kD_GD2) | ((with_reducible apply c7) <;> exact kD_GD2))) | ((fail_if_success (with_reducible first | show Is _ _ | show ACall _ _ _ _ _)); (try ((with_reducible show _ ∨ _); exact kT))))) | (((with_reducible first | apply o_callQ | apply q_callQ); rfl); (iterate 2 exact kE_GD2); (first | ((with_reducible apply q0) <;> exact kD_GD2))))); exact hq k)) : p := h ⟨k⟩
theorem wB_GD3 {p q : Prop} (k : q) (h : Hq q → p := by (intro k; (repeat' (first | (with_reducible first | apply jA | apply jB | apply jC | apply jD | apply jE | apply jF | apply jG | apply jH | apply jI | apply jJ | apply jK | apply jL | apply jM | apply jN | apply jO) | ((with_reducible first | apply jP | apply jQ); rfl) | ((first | ((with_reducible first | apply jR | apply jS | apply jT); rfl; rfl) | (with_reducible first | apply jU | apply jV | apply jW) | ((with_reducible first | apply jX | apply jY | apply jZ); rfl) | ((with_reducible first | apply kA | apply kB | apply kC); rfl)); all_goals (first | ((with_reducible show Is _ _); exact kE_GD3) | ((with_reducible refine fun (hc : (_ : Bool) = _) => ?_); (try simp only [xZ, xY, xP, reduceCtorEq] at hc); (try (have hx : True := hc; clear hx hc)); (try exact kX)) | ((with_reducible show ACall _ _ _ _ _); (first | ((with_reducible apply c0) <;> exact kD_GD3) | ((with_reducible apply c1) <;> exact kD_GD3) | ((with_reducible apply c2) <;> exact kD_GD3) | ((with_reducible apply c3) <;> exact kD_GD3) | ((with_reducible apply c4) <;> exact kD_GD3) | ((with_reducible apply c5) <;> exact kD_GD3) | ((with_reducible apply c6) <;> exact kD_GD3) | ((with_reducible apply c7) <;> exact kD_GD3))) | ((fail_if_success (with_reducible first | show Is _ _ | show ACall _ _ _ _ _)); (try ((with_reducible show _ ∨ _); exact kT))))) | (((with_reducible first | apply o_callQ | apply q_callQ); rfl); (iterate 2 exact kE_GD3); (first | ((with_reducible apply q0) <;> exact kD_GD3))))); exact hq k)) : p := h ⟨k⟩
theorem w_GD00 {p q : Prop}  (k : q) (h : Hq q → p := by (intro  k; exact wB_GD0 (hq k))) : p := h  ⟨k⟩
theorem w_GD10 {p q : Prop}  (k : q) (h : Hq q → p := by (intro  k; exact wB_GD1 (hq k))) : p := h  ⟨k⟩
theorem w_GD20 {p q : Prop}  (k : q) (h : Hq q → p := by (intro  k; exact wB_GD2 (hq k))) : p := h  ⟨k⟩
theorem w_GD31 {A0 p q : Prop} (c0 : A0) (k : q) (h : A0 → Hq q → p := by (intro c0 k; exact wB_GD3 (hq k))) : p := h c0 ⟨k⟩
theorem w_GD32 {A0 A1 p q : Prop} (c0 : A0) (c1 : A1) (k : q) (h : A0 → A1 → Hq q → p := by (intro c0 c1 k; exact wB_GD3 (hq k))) : p := h c0 c1 ⟨k⟩
def z12 : List UInt8 := List.replicate 12 0
def z16 : List UInt8 := List.replicate 16 0
def addrC (six : Bool) (ip : List UInt8) : CV := .agg (.bool six :: ip.map byteC)
theorem rep_bytes : ∀ n : Nat, repC [CV.int .u8 0] n = (List.replicate n (0 : UInt8)).map byteC
  | 0 => rfl
  | n + 1 => by rw [List.replicate_succ, List.map_cons, ← rep_bytes n]; rfl
theorem byte_wrap (n : Nat) : byteC (UInt8.ofNat n) = .int .u8 (IntKind.u8.wrap n) := by
  have h : (UInt8.ofNat n).toNat = n % 256 := by rw [UInt8.toNat_ofNat']
  rw [byteC, h]; congr 1
theorem z12_len : z12.length = 12 := rfl
def bytesV (x s n : Nat) : List UInt8 := (List.range n).map fun i => UInt8.ofNat (x + i * s)
def bytesJ (x s n j : Nat) : List UInt8 := bytesV x s j ++ List.replicate (n - j) 0
theorem bytesV_len (x s n : Nat) : (bytesV x s n).length = n := by simp [bytesV]
theorem bytesJ_len {x s n j : Nat} (h : j ≤ n) : (bytesJ x s n j).length = n := by simp [bytesJ, bytesV]; omega
theorem bytesJ_set {x s n j : Nat} (h : j < n) : (bytesJ x s n j).set j (UInt8.ofNat (x + j * s)) = bytesJ x s n (j + 1) := by
  have e : n - j = (n - (j + 1)) + 1 := by omega
  rw [bytesJ, bytesJ, List.set_append_right _ _ (by simp [bytesV]), bytesV_len, Nat.sub_self, e, List.replicate_succ, List.set_cons_zero, bytesV, bytesV, List.range_succ, List.map_append, List.append_assoc]
  rfl
theorem bytes_at {B : List Box} {β : Nat} {args : List CV} {l : List UInt8} {a n : Nat} {m : Int} (ha : Is args [.ptr β 0, .int .i64 m]) (hm : m = n) (hB : B[β]? = some (cb l a)) (hl : a ≤ l.length ∧ l.length < 1000000) (hn : n ≤ 1000) : ACall Tryz.prog 100 args B fun c B' => c = .view B.length 0 n 1 true ∧ B' = B.set β (cb l (nxA l a 256)) ++ [⟨(bytesV (nxV l a 256) (2 * nxA l a 256 + 1) n).map byteC, false⟩] := by
  have ha : args = _ := ha
  subst ha hm
  obtain ⟨p1, p2, p3, p4, p5, p6, p7, p8, p9, p10, p11, p12, p13⟩ := bx_pack hB
  have hx := nxV_lt (l := l) (a := a) (n := 256) (by omega)
  have hA := nxA_le (l := l) (n := 256) hl.1
  have hnx : ∀ {B : List Box} {args : List CV}, Is args [.ptr β 0, .int .i64 256] → B[β]? = some (cb l a) → ACall Tryz.prog 37 args B fun c B' => c = .int .i64 (nxV l a 256) ∧ B' = B.set β (cb l (nxA l a 256)) := fun h h2 => next_at h rfl h2 ⟨hl.1, by omega⟩
  generalize nxV l a 256 = x at *
  generalize hA' : nxA l a 256 = A at *
  have hr := rep_bytes n
  have h0 : List.replicate n (0 : UInt8) = bytesJ x (2 * A + 1) n 0 := by simp [bytesJ, bytesV]
  rw [h0] at hr
  have hcb : cb l A = ⟨[.lst l.length (l.map byteC) false, .int .i64 A], false⟩ := rfl
  refine acall_intro mixed Tryz.func100 rfl ca100 (by kernel_rfl) (by rw [Tryz.ntmps100]; simp) ?_
  refine w1 @hnx ?_ 
  obtain ⟨s, hs, hs2⟩ : ∃ s : Nat, 2 * A + 1 = s ∧ s ≤ 2000001 := ⟨_, rfl, by omega⟩
  have hsi : (2 * (A : Int) + 1) = s := by omega
  rw [hs] at *
  refine w_loop (fun fr B1 => ∃ j : Nat, j ≤ n ∧ fr 5 = .view B.length 0 n 1 true ∧ fr 6 = .int .i64 x ∧ fr 7 = .int .i64 s ∧ fr 20 = .int .i64 n ∧ fr 21 = .int .i64 j ∧ B1 = B.set β (cb l A) ++ [⟨(bytesJ x s n j).map byteC, false⟩]) (fun fr _ => n - natOf (fr 21)) ?_ ?_
  · exact ⟨0, by omega, kS, kS, kS, kS, kS, rfl⟩
  · rintro fr B1 ⟨j, hj, h5, h6, h7, h20, h21, rfl⟩
    have hjl := bytesJ_len (x := x) (s := s) hj
    by_cases hc : j < n
    · have hset := bytesJ_set (x := x) (s := s) hc
      have hb : j * s ≤ 1000 * 2000001 := Nat.mul_le_mul (by omega) hs2
      have hb2 : 0 ≤ (j : Int) * s ∧ (j : Int) * s ≤ 2000001000 := by rw [← Int.natCast_mul]; omega
      have hv : byteC (UInt8.ofNat (x + j * s)) = .int .u8 (IntKind.u8.wrap (x + (j : Int) * s)) := by rw [byte_wrap]; push_cast; rfl
      refine w0 ?_ 
      refine ⟨⟨j + 1, by omega, kS, kS, kS, kS, kS, ?_⟩, kS⟩
      rw [cb, ← hv, bytes_mid, ← hset, List.set_eq_take_append_cons_drop (l := bytesJ x s n j), if_pos (by omega)]
    · have : j = n := by omega
      subst this
      refine w0 ?_ 
      have : bytesJ x s j j = bytesV x s j := by simp [bytesJ]
      rw [this]
      exact ⟨rfl, rfl⟩
def cutN (x h : Nat) : Nat := x / 2 ^ (8 - h) * 2 ^ (8 - h)
theorem cut_bits0 : ∀ x : Fin 256, ∀ h : Fin 9, ∀ q : Fin 8, cutN x.1 h.1 / 2 ^ (7 - q.1) % 2 = if q.1 < h.1 then x.1 / 2 ^ (7 - q.1) % 2 else 0 := by decide +kernel
theorem cutN_le (x h : Nat) : cutN x h ≤ x := Nat.div_mul_le_self _ _
def cutB (x : UInt8) (h : Nat) : UInt8 := UInt8.ofNat (cutN x.toNat h)
theorem cutB_toNat (x : UInt8) (h : Nat) : (cutB x h).toNat = cutN x.toNat h := by
  have := x.toNat_lt; have := cutN_le x.toNat h
  rw [cutB, UInt8.toNat_ofNat']; omega
def cutL (A : List UInt8) (s : Nat) : List UInt8 := (List.range 16).map fun i => cutB (A.getD i 0) (min (s - 8 * i) 8)
def cutJ (A : List UInt8) (s k : Nat) : List UInt8 := (List.range 16).map fun i => if i < k then cutB (A.getD i 0) (min (s - 8 * i) 8) else A.getD i 0
theorem row16 {A : List UInt8} (h : A.length = 16) (f : Nat → UInt8) (hf : ∀ i, i < 16 → f i = A.getD i 0) : (List.range 16).map f = A := by
  apply List.ext_getElem
  · simp [h]
  · intro i h1 h2
    rw [List.getElem_map, List.getElem_range, hf i (by omega), List.getD_eq_getElem?_getD, List.getElem?_eq_getElem h2, Option.getD_some]
theorem row16_set (f g : Nat → UInt8) (k : Nat) (x : UInt8) (hk : k < 16) (hx : g k = x) (hg : ∀ i, i < 16 → i ≠ k → g i = f i) : ((List.range 16).map f).set k x = (List.range 16).map g := by
  apply List.ext_getElem
  · simp
  · intro i h1 h2
    rw [List.getElem_set, List.getElem_map, List.getElem_range]
    split
    · rename_i h; subst h; rw [List.getElem_map, List.getElem_range]; exact hx.symm
    · rename_i h
      rw [List.getElem_map, List.getElem_range]
      exact (hg i (by simpa using h2) (fun e => h e.symm)).symm
theorem cutL_len (A : List UInt8) (s : Nat) : (cutL A s).length = 16 := by simp [cutL]
theorem cutJ_len (A : List UInt8) (s i : Nat) : (cutJ A s i).length = 16 := by simp [cutJ]
theorem getD_row16 (f : Nat → UInt8) {k : Nat} (hk : k < 16) : ((List.range 16).map f).getD k 0 = f k := by
  rw [List.getD_eq_getElem?_getD, List.getElem?_map, List.getElem?_range hk]; rfl
theorem cutJ_start {A : List UInt8} (h : A.length = 16) (s : Nat) : cutJ A s 0 = A := row16 h _ fun _ _ => rfl
theorem cutJ_end (A : List UInt8) (s : Nat) : cutJ A s 16 = cutL A s := by
  apply List.map_congr_left
  intro i hi
  rw [List.mem_range] at hi
  rw [if_pos hi]
theorem cutJ_get (A : List UInt8) {s k : Nat} (hk : k < 16) : (cutJ A s k).getD k 0 = A.getD k 0 := by
  rw [cutJ, getD_row16 _ hk, if_neg (by omega)]
theorem cutJ_step (A : List UInt8) {s k : Nat} (hk : k < 16) : (cutJ A s k).set k (cutB (A.getD k 0) (min (s - 8 * k) 8)) = cutJ A s (k + 1) := by
  refine row16_set _ _ _ _ hk (by rw [if_pos (by omega)]) fun j hj hne => ?_
  by_cases h : j < k
  · rw [if_pos h, if_pos (by omega)]
  · rw [if_neg h, if_neg (by omega)]
section
variable {α : Type} {c : α} {l : List α} {k : Nat}
theorem cons_get1 (h : 1 + k < (c :: l).length) : (c :: l)[1 + k]'h = l[k]'(by simp at h; omega) := by
  simp only [Nat.add_comm 1 k, List.getElem_cons_succ]
theorem cons_take1 : (c :: l).take (1 + k) = c :: l.take k := by rw [Nat.add_comm, List.take_succ_cons]
theorem cons_drop1 : (c :: l).drop (1 + k) = l.drop k := by rw [Nat.add_comm, List.drop_succ_cons]
theorem cons_drop2 : (c :: l).drop (1 + k + 1) = l.drop (k + 1) := by rw [Nat.add_comm 1 k, List.drop_succ_cons]
end
theorem u8_ones : (if IntKind.u8.signed = true then (-1 : Int) else IntKind.u8.max) = 255 := rfl
theorem get_of_getD {l : List UInt8} {i : Nat} {y : UInt8} (h : l.getD i 0 = y) (hi : i < l.length) : l[i] = y := by
  rw [← h, List.getD_eq_getElem?_getD, List.getElem?_eq_getElem hi, Option.getD_some]
theorem and_cut0 : ∀ x : Fin 256, ∀ h : Fin 9, bits .and .u8 (x.1 : Int) (bits .xor .u8 255 (Int.fdiv 255 (2 ^ h.1))) = (cutN x.1 h.1 : Int) := by decide +kernel
theorem and_cut (x : UInt8) {h : Nat} (hh : h ≤ 8) : CV.int .u8 (bits .and .u8 (x.toNat : Int) (bits .xor .u8 255 (Int.fdiv 255 (2 ^ h)))) = byteC (cutB x h) := by
  rw [byteC, cutB_toNat]; exact congrArg _ (and_cut0 ⟨x.toNat, x.toNat_lt⟩ ⟨h, by omega⟩)
def prefC (six : Bool) (A : List UInt8) (s : Int) : CV := .agg (.bool six :: (A.map byteC ++ [.int .i64 s]))
theorem icut_in (six : Bool) (A : List UInt8) (s : Nat) (hA : A.length = 16) (hs : s ≤ 128) : PC Tryz.prog true 174 [addrC six A, .int .i64 s] (addrC six (cutL A s)) := by
  refine acall_intro mixed Tryz.func174 rfl ca174 (by kernel_rfl) (by rw [Tryz.ntmps174]; simp) ?_
  refine w_GD00 ?_ 
  refine w_loop (fun fr B => ∃ i b, i ≤ 16 ∧ fr 7 = .int .i64 (i : Nat) ∧ fr 1 = .int .i64 s ∧ fr 2 = .ptr 0 0 ∧ fr 4 = .ptr 1 0 ∧ b.cells.length = 17 ∧ b.multi = false ∧ B = [⟨.bool six :: (cutJ A s i).map byteC, false⟩, b]) (fun fr _ => 16 - natOf (fr 7)) ?_ ?_
  · refine ⟨0, _, by omega, kS, kS, kS, kS, ?_, ?_, by rw [cutJ_start hA]⟩ <;> rfl
  · rintro fr B ⟨i, ⟨bc, bm⟩, h1, h7, h1', h2', h4, hb, hbm, rfl⟩
    dsimp only at hb hbm
    subst hbm
    have hl := cutJ_len A s i
    by_cases hc : i < 16
    · have hg := get_of_getD (cutJ_get A (s := s) hc)
      have hm : (min (max ((s : Int) - 8 * i) 0) 8).toNat = min (s - 8 * i) 8 := by omega
      have han := and_cut (A.getD i 0) (h := min (s - 8 * i) 8) (by omega)
      have hst := cutJ_step A (s := s) hc
      generalize min (s - 8 * i) 8 = r at *
      generalize A.getD i 0 = y at *
      generalize cutB y r = y' at *
      refine w_GD10 ?_ 
      refine ⟨⟨i + 1, ⟨bc, false⟩, by omega, kS, kS, kS, kS, hb, rfl, ?_⟩, kS⟩
      rw [← hst, List.set_eq_take_append_cons_drop, if_pos (by rw [hl]; omega), ← bytes_mid]
      rw [Nat.add_comm 1]
    · have : i = 16 := by omega
      subst this
      rw [cutJ_end] at *
      refine w0 ?_ 
      rw [addrC]
      (simp (disch := omega) [go_sem, *]) <;> (try omega)
def okA (six : Bool) (A : List UInt8) : Bool := six || (A.drop 4 == z12)
def vld (six : Bool) (A : List UInt8) (s : Int) : Bool := okA six A && (decide (0 ≤ s) && (decide (s ≤ if six then 128 else 32) && (cutL A s.toNat == A)))
theorem icut_at {B : List Box} {args : List CV} {six : Bool} {A : List UInt8} {n : Int} {s : Nat} (hz : Is (omap (fz true false B 6) args) (some [addrC six A, .int .i64 n])) (hn : n = s) (hA : A.length = 16) (hs : s ≤ 128) : ACall Tryz.prog 174 args B fun c B' => c = addrC six (cutL A s) ∧ B' = B := by subst hn; exact acall_fresh hz (icut_in six A s hA hs)
theorem zeros12 : [CV.int IntKind.u8 0, CV.int IntKind.u8 0, CV.int IntKind.u8 0, CV.int IntKind.u8 0, CV.int IntKind.u8 0, CV.int IntKind.u8 0, CV.int IntKind.u8 0, CV.int IntKind.u8 0, CV.int IntKind.u8 0, CV.int IntKind.u8 0, CV.int IntKind.u8 0, CV.int IntKind.u8 0] = z12.map byteC := rfl
theorem valid_in (six : Bool) (A : List UInt8) (hA : A.length = 16) : PC Tryz.prog true 173 [addrC six A] (.bool (okA six A)) := by
  obtain ⟨H, T, rfl, hH, hT⟩ : ∃ H T, H ++ T = A ∧ H.length = 4 ∧ T.length = 12 := ⟨A.take 4, A.drop 4, List.take_append_drop _ _, by rw [List.length_take]; omega, by rw [List.length_drop]; omega⟩
  have hd : (H ++ T).drop 4 = T := by rw [← hH]; simp
  rw [okA, hd]
  refine acall_intro mixed Tryz.func173 rfl ca173 (by kernel_rfl) (by rw [Tryz.ntmps173]; simp) ?_
  cases six with
  | true =>
    refine w_GD20 ?_ 
    simp [fz_bool]
  | false =>
    have hz := z12_len
    refine w_GD20 ?_ 
    have e : (H ++ T == H ++ z12) = (T == z12) := by rw [Bool.eq_iff_iff]; simp
    simp [fz_bool, e]
theorem valid_at {B : List Box} {args : List CV} {six : Bool} {A : List UInt8} (hz : Is (omap (fz true false B 6) args) (some [addrC six A])) (hA : A.length = 16) : ACall Tryz.prog 173 args B fun c B' => c = .bool (okA six A) ∧ B' = B := acall_fresh hz (valid_in six A hA)
theorem iValid_in (six : Bool) (A : List UInt8) (s : Int) (hA : A.length = 16) : PC Tryz.prog true 155 [prefC six A s] (.bool (vld six A s)) := by
  have hv : ∀ {B : List Box} {args : List CV}, Is (omap (fz true false B 6) args) (some [.agg (.bool six :: A.map byteC)]) → ACall Tryz.prog 173 args B fun c B' => c = .bool (okA six A) ∧ B' = B := fun h => valid_at h hA
  rw [vld]
  generalize okA six A = ok at *
  have hc : ∀ {B : List Box} {args : List CV}, 0 ≤ s ∧ s ≤ 128 → Is (omap (fz true false B 6) args) (some [.agg (.bool six :: A.map byteC), .int .i64 s]) → ACall Tryz.prog 174 args B fun c B' => c = .agg (.bool six :: (cutL A s.toNat).map byteC) ∧ B' = B := fun hs h => icut_at (s := s.toNat) h (by omega) hA (by omega)
  have hl := cutL_len A s.toNat
  generalize cutL A s.toNat = C at *
  refine acall_intro mixed Tryz.func155 rfl ca155 (by kernel_rfl) (by rw [Tryz.ntmps155]; simp) ?_
  cases ok with
  | false =>
    cases six
    all_goals
      refine w_GD31 @hv ?_ 
      all_goals simp [fz_bool]
  | true =>
    by_cases h1 : 0 ≤ s
    · cases six
      · by_cases h2 : s ≤ 32
        · refine w_GD32 @hv @hc ?_ 
          all_goals simp [fz_bool, *]
        · refine w_GD31 @hv ?_ 
          all_goals simp [fz_bool, *]
      · by_cases h2 : s ≤ 128
        · refine w_GD32 @hv @hc ?_ 
          all_goals simp [fz_bool, *]
        · refine w_GD31 @hv ?_ 
          all_goals simp [fz_bool, *]
    · cases six
      all_goals
        refine w_GD31 @hv ?_ 
        all_goals simp [fz_bool, *]
theorem iValid_at {B : List Box} {args : List CV} {six : Bool} {A : List UInt8} {s : Int} (hz : Is (omap (fz true false B 6) args) (some [prefC six A s])) (hA : A.length = 16) : ACall Tryz.prog 155 args B fun c B' => c = .bool (vld six A s) ∧ B' = B := acall_fresh hz (iValid_in six A s hA)
theorem cutL_get (A : List UInt8) (s : Nat) {i : Nat} (hi : i < 16) : (cutL A s).getD i 0 = cutB (A.getD i 0) (min (s - 8 * i) 8) := getD_row16 _ hi
def bitI (A : List UInt8) (k : Nat) : Nat := (A.getD (k / 8) 0).toNat / 2 ^ (7 - k % 8) % 2
theorem byteExt {x y : UInt8} (h : ∀ r, r < 8 → x.toNat / 2 ^ (7 - r) % 2 = y.toNat / 2 ^ (7 - r) % 2) : x = y := by
  apply UInt8.toNat_inj.1
  apply Nat.eq_of_testBit_eq
  intro i
  rcases Nat.lt_or_ge i 8 with hi | hi
  · have := h (7 - i) (by omega)
    rw [show 7 - (7 - i) = i by omega] at this
    rw [Nat.testBit_eq_decide_div_mod_eq, Nat.testBit_eq_decide_div_mod_eq, this]
  · have hx := x.toNat_lt; have hy := y.toNat_lt
    have hp : (2 : Nat) ^ 8 ≤ 2 ^ i := Nat.pow_le_pow_right (by omega) hi
    rw [Nat.testBit_lt_two_pow (by omega), Nat.testBit_lt_two_pow (by omega)]
theorem ipExt {A C : List UInt8} (hA : A.length = 16) (hC : C.length = 16) (h : ∀ k, k < 128 → bitI A k = bitI C k) : A = C := by
  apply List.ext_getElem
  · rw [hA, hC]
  · intro i h1 h2
    have e1 := get_of_getD (l := A) (i := i) rfl h1
    have e2 := get_of_getD (l := C) (i := i) rfl h2
    rw [e1, e2]
    refine byteExt fun r hr => ?_
    have := h (8 * i + r) (by omega)
    rw [bitI, bitI, show (8 * i + r) / 8 = i by omega, show (8 * i + r) % 8 = r by omega] at this
    exact this
theorem bit_cut (A : List UInt8) (s : Nat) {k : Nat} (hk : k < 128) : bitI (cutL A s) k = if k < s then bitI A k else 0 := by
  rw [bitI, bitI, cutL_get A s (by omega), cutB_toNat]
  have := cut_bits0 ⟨(A.getD (k / 8) 0).toNat, (A.getD (k / 8) 0).toNat_lt⟩ ⟨min (s - 8 * (k / 8)) 8, by omega⟩ ⟨k % 8, by omega⟩
  dsimp only at this
  rw [this]
  by_cases h : k < s
  · rw [if_pos h, if_pos (by omega)]
  · rw [if_neg h, if_neg (by omega)]
theorem cut_same {A : List UInt8} (hA : A.length = 16) (s : Nat) : cutL A s = A ↔ ∀ k, s ≤ k → k < 128 → bitI A k = 0 := by
  constructor
  · intro h k h1 h2
    rw [← h, bit_cut A s h2, if_neg (by omega)]
  · intro h
    refine ipExt (cutL_len _ _) hA fun k hk => ?_
    rw [bit_cut A s hk]
    split
    · rfl
    · rename_i hs; exact (h k (by omega) hk).symm
theorem sound_in (six : Bool) (A : List UInt8) (hA : A.length = 16) : PC Tryz.prog true 123 [addrC six A] (.bool (okA six A)) := by
  obtain ⟨H, T, rfl, hH, hT⟩ : ∃ H T, H ++ T = A ∧ H.length = 4 ∧ T.length = 12 := ⟨A.take 4, A.drop 4, List.take_append_drop _ _, by rw [List.length_take]; omega, by rw [List.length_drop]; omega⟩
  have hd : (H ++ T).drop 4 = T := by rw [← hH]; simp
  rw [okA, hd]
  refine acall_intro mixed Tryz.func123 rfl ca123 (by kernel_rfl) (by rw [Tryz.ntmps123]; simp) ?_
  refine w_GD00 ?_ 
  refine w_loop (fun fr B => ∃ i : Nat, i ≤ 12 ∧ fr 8 = .int .i64 i ∧ fr 7 = .int .i64 12 ∧ fr 6 = .view 0 5 12 1 true ∧ fr 1 = .ptr 0 0 ∧ B = [⟨.bool six :: (H ++ T).map byteC, false⟩] ∧ (six = false → T.take i = z12.take i)) (fun fr _ => 12 - natOf (fr 8)) ?_ ?_
  · refine ⟨0, by omega, kS, kS, ?_, kS, rfl, fun _ => rfl⟩
    (simp (disch := omega) [go_sem, *]) <;> (try omega)
  · rintro fr B ⟨i, hi, h8, h7, h6, h1, rfl, hz⟩
    by_cases hc : i < 12
    · cases six with
      | true =>
        refine w0 ?_ 
        exact ⟨⟨i + 1, by omega, kS, kS, kS, kS, rfl, fun h => by cases h⟩, kS⟩
      | false =>
        have hz := hz rfl
        have h5 : ∀ h, (CV.bool false :: List.map byteC (H ++ T))[5 + i]'h = byteC (T[i]'(by omega)) := by
          intro h
          simp only [show 5 + i = (4 + i) + 1 by omega, List.getElem_cons_succ, List.getElem_map]
          rw [List.getElem_append_right (by omega)]
          simp only [hH, Nat.add_sub_cancel_left]
        have hzi : z12[i]? = some 0 := by
          have : ∀ j : Fin 12, z12[j.1]? = some 0 := by decide
          exact this ⟨i, hc⟩
        obtain ⟨t, ht⟩ : ∃ t, T[i]'(by omega) = t := ⟨_, rfl⟩
        have hti : T[i]? = some t := by rw [← ht]; exact List.getElem?_eq_getElem _
        rw [ht] at h5
        clear ht
        by_cases h0 : t = 0
        · subst h0
          have hz2 : T.take (i + 1) = z12.take (i + 1) := by rw [List.take_add_one, List.take_add_one, hz, hti, hzi]
          clear hz hti hzi
          refine w0 ?_ 
          exact ⟨⟨i + 1, by omega, kS, kS, kS, kS, rfl, fun _ => hz2⟩, kS⟩
        · have h0' : ¬ (t.toNat : Int) = 0 := by
            intro h; exact h0 (UInt8.toNat_inj.1 (by simpa using h))
          have hne : (T == z12) = false := by
            rw [beq_eq_false_iff_ne]; rintro rfl
            rw [hzi] at hti; exact h0 (Option.some.inj hti).symm
          clear hz hti hzi
          refine w0 ?_ 
          simp [fz_bool, hne]
    · have : i = 12 := by omega
      subst this
      have he : (six || T == z12) = true := by
        cases six with
        | true => rfl
        | false =>
          have := hz rfl
          rw [List.take_of_length_le (by omega), List.take_of_length_le (by rw [z12_len]; omega)] at this
          rw [this]; rfl
      rw [he]
      clear hz
      refine w0 ?_ 
      simp [fz_bool]
theorem sound_at {B : List Box} {args : List CV} {six : Bool} {A : List UInt8} (hz : Is (omap (fz true false B 6) args) (some [addrC six A])) (hA : A.length = 16) : ACall Tryz.prog 123 args B fun c B' => c = .bool (okA six A) ∧ B' = B := acall_fresh hz (sound_in six A hA)
end Go.Proofs.YtcbdghgogmcllaaGreatDoor
end
section
namespace Go.Proofs.YtcbdghgogmcllaaGreatDoor
open Go Go.Sy
def bgA (l : List UInt8) (a : Nat) : Nat := nxA l (nxA l (nxA l a 256) 256) 256
def bgV (l : List UInt8) (a n : Nat) : Nat := (nxV l a 256 * 65536 + nxV l (nxA l a 256) 256 * 256 + nxV l (nxA l (nxA l a 256) 256) 256) % n
theorem bgA_le {l : List UInt8} {a : Nat} (h : a ≤ l.length) : bgA l a ≤ l.length := nxA_le (nxA_le (nxA_le h))
theorem bgV_lt {l : List UInt8} {a n : Nat} (h : 0 < n) : bgV l a n < n := Nat.mod_lt _ h
theorem or_low (k x y : Nat) (hx : x * 2 ^ k < 4611686018427387904) (hy : y < 2 ^ k) (hy2 : y < 4611686018427387904) : bits .or .i64 ((x * 2 ^ k : Nat) : Int) (y : Int) = ((x * 2 ^ k + y : Nat) : Int) := by
  have h2 := Nat.two_pow_add_eq_or_of_lt (i := k) (b := y) hy x
  rw [i64_or_nat _ _ (by omega) (by omega)]
  congr 1
  rw [Nat.mul_comm] at h2
  exact h2.symm
theorem big_or (x y z : Nat) (hx : x < 256) (hy : y < 256) (hz : z < 256) : bits .or .i64 (bits .or .i64 ((x : Int) * 65536) ((y : Int) * 256)) (z : Int) = ((x * 65536 + y * 256 + z : Nat) : Int) := by
  have e1 := or_low 16 x (y * 256) (by omega) (by omega) (by omega)
  have e2 := or_low 8 (x * 256 + y) z (by omega) (by omega) (by omega)
  rw [show ((x : Int) * 65536) = ((x * 2 ^ 16 : Nat) : Int) by omega, show ((y : Int) * 256) = ((y * 256 : Nat) : Int) by omega, e1, show x * 2 ^ 16 + y * 256 = (x * 256 + y) * 2 ^ 8 by omega, e2]
theorem big_at {B : List Box} {β : Nat} {args : List CV} {l : List UInt8} {a n : Nat} {m : Int} (ha : Is args [.ptr β 0, .int .i64 m]) (hm : m = n) (hn : 1 ≤ n ∧ n ≤ 16777216) (hB : B[β]? = some (cb l a)) (hl : a ≤ l.length ∧ l.length < 1000000) : ACall Tryz.prog 20 args B fun c B' => c = .int .i64 (bgV l a n) ∧ B' = B.set β (cb l (bgA l a)) := by
  have ha : args = _ := ha
  subst ha hm
  obtain ⟨p1, p2, p3, p4, p5, p6, p7, p8, p9, p10, p11, p12, p13⟩ := bx_pack hB
  have h1 := nxA_le (n := 256) hl.1
  have h2 := nxA_le (n := 256) h1
  have hnx : ∀ (b : Nat), b ≤ l.length → ∀ (B : List Box) (args : List CV), Is args [.ptr β 0, .int .i64 256] → B[β]? = some (cb l b) → ACall Tryz.prog 37 args B fun c B' => c = .int .i64 (nxV l b 256) ∧ B' = B.set β (cb l (nxA l b 256)) := fun b hb _ _ h h2 => next_at (n := 256) h rfl h2 ⟨hb, by omega⟩
  have k1 := hnx a hl.1
  have k2 := hnx _ h1
  have k3 := hnx _ h2
  have b1 := nxV_lt (l := l) (a := a) (n := 256) (by omega)
  have b2 := nxV_lt (l := l) (a := nxA l a 256) (n := 256) (by omega)
  have b3 := nxV_lt (l := l) (a := nxA l (nxA l a 256) 256) (n := 256) (by omega)
  rw [bgA, bgV]
  generalize nxV l (nxA l (nxA l a 256) 256) 256 = v3 at *
  generalize nxV l (nxA l a 256) 256 = v2 at *
  generalize nxV l a 256 = v1 at *
  generalize nxA l (nxA l (nxA l a 256) 256) 256 = a3 at *
  generalize nxA l (nxA l a 256) 256 = a2 at *
  generalize nxA l a 256 = a1 at *
  have hor := big_or v1 v2 v3 b1 b2 b3
  have htm : (((v1 * 65536 + v2 * 256 + v3 : Nat) : Int)).tmod (n : Int) = (((v1 * 65536 + v2 * 256 + v3) % n : Nat) : Int) := rfl
  generalize hW : v1 * 65536 + v2 * 256 + v3 = W at *
  have hnp : (n : Int) ≠ 0 := by omega
  have hn1 := hn.1
  have hn2 := hn.2
  clear hnx hn
  refine acall_intro mixed Tryz.func20 rfl ca20 (by kernel_rfl) (by rw [Tryz.ntmps20]; simp) ?_
  refine w3 @k1 @k2 @k3 ?_ 
  exact ⟨rfl, rfl⟩
end Go.Proofs.YtcbdghgogmcllaaGreatDoor
end
section
namespace Go.Sy
open Go.RowKit (Below)
section
variable {P : Program} {I I' : Nat → Nat → Prop} {μ : List (List Place)} {w w' : World} {B : List Box}
theorem acall_of_calls {f : FuncId} {args : List CV} {Q : CV → Prop} (hc : callable P f = true)
    (h : ∀ (I : Nat → Nat → Prop) (μ : List (List Place)) (w : World) (vs : List Value), TabsOk I w → (∀ b j, I b j → b < w.heap.size) → R I μ w false args vs →
      Calls P f vs.toArray w fun e w' => ∃ c v, e = .returned v ∧ Q c ∧ Below w.heap.size w w' ∧ V (fun b j => I b j ∨ (w.heap.size ≤ b ∧ b < w'.heap.size)) μ w' c v) :
    ACall P f args B fun c B' => Q c ∧ B' = B :=
  ⟨hc, fun N I μ w vs hB hv => (h I μ w vs hB.tabs hB.imm hv).mono fun e w' ⟨c, v, he, hq, hbel, hval⟩ => by
    obtain ⟨g1, g2, g3⟩ := hB.behind (I2 := fun b j => I b j ∨ (w.heap.size ≤ b ∧ b < w'.heap.size)) hbel (fun b j h => .inl h) (fun b j h => h)
    exact ⟨c, v, B, _, μ, he, ⟨hq, rfl⟩, ⟨hval, g1, g2, g3⟩⟩⟩
theorem R.str_cons {one : Bool} {s : List UInt8} {cs : List CV} {vs : List Value} (h : R I μ w one (.str s :: cs) vs) : ∃ ws, vs = .string ⟨s.toArray⟩ :: ws ∧ R I μ w one cs ws := by
  cases h with
  | str s tl => exact ⟨_, rfl, tl⟩
theorem R.int_cons {one : Bool} {k : IntKind} {n : Int} {cs : List CV} {vs : List Value} (h : R I μ w one (.int k n :: cs) vs) : ∃ ws, vs = .int k n :: ws ∧ R I μ w one cs ws := by
  cases h with
  | int k n tl => exact ⟨_, rfl, tl⟩
theorem R.none {one : Bool} {vs : List Value} (h : R I μ w one [] vs) : vs = [] := by cases h; rfl
theorem Below.same : Below w.heap.size w w := ⟨rfl, rfl, rfl, Nat.le_refl _, fun _ _ => rfl⟩
theorem Below.drewN' (n : Nat) : Below w.heap.size w (w.drewN n) := ⟨rfl, rfl, rfl, Nat.le_refl _, fun _ _ => rfl⟩
end
end Go.Sy
end
section
namespace Go.Proofs
open Go.Shelf
def Tryz.lays156_ren : Go.Shelf.Ren := ⟨fun | 156 => 48 | 165 => 91 | 166 => 27 | 169 => 28 | 240 => 50 | 241 => 122 | 276 => 92 | 277 => 148 | n => n, fun | 31 => 30 | 9 => 9 | 3 => 3 | 4 => 4 | 0 => 0 | 20 => 20 | 72 => 76 | 76 => 79 | 70 => 74 | 37 => 22 | 75 => 78 | 127 => 105 | 164 => 127 | 5 => 5 | 80 => 81 | n => n, fun | n => n⟩
theorem Tryz.lays156 : Go.Proofs.Lays.n156 Tryz.prog Tryz.lays156_ren := {
  mixed := by kernel_rfl
  f156 := Tryz.func48.trans (congrArg some (by kernel_rfl))
  f165 := Tryz.func91.trans (congrArg some (by kernel_rfl))
  f166 := Tryz.func27.trans (congrArg some (by kernel_rfl))
  f169 := Tryz.func28.trans (congrArg some (by kernel_rfl))
  f240 := Tryz.func50.trans (congrArg some (by kernel_rfl))
  f241 := Tryz.func122.trans (congrArg some (by kernel_rfl))
  f276 := Tryz.func92.trans (congrArg some (by kernel_rfl))
  f277 := Tryz.func148.trans (congrArg some (by kernel_rfl))
  t0 := Tryz.underlying0
  a0 := Tryz.isAgg0
  z0 := Tryz.sizeOf0
  v0 := Tryz.zeroValue0
  t3 := Tryz.underlying3
  a3 := Tryz.isAgg3
  z3 := Tryz.sizeOf3
  v3 := Tryz.zeroValue3
  t4 := Tryz.underlying4
  a4 := Tryz.isAgg4
  z4 := Tryz.sizeOf4
  v4 := Tryz.zeroValue4
  t9 := Tryz.underlying9
  a9 := Tryz.isAgg9
  z9 := Tryz.sizeOf9
  v9 := Tryz.zeroValue9
  t20 := Tryz.underlying20
  a20 := Tryz.isAgg20
  z20 := Tryz.sizeOf20
  v20 := Tryz.zeroValue20
  t31 := Tryz.underlying30
  a31 := Tryz.isAgg30
  z31 := Tryz.sizeOf30
  v31 := Tryz.zeroValue30
  t37 := Tryz.underlying22
  a37 := Tryz.isAgg22
  z37 := Tryz.sizeOf22
  v37 := Tryz.zeroValue22
  t70 := Tryz.underlying74
  a70 := Tryz.isAgg74
  z70 := Tryz.sizeOf74
  v70 := Tryz.zeroValue74
  t72 := Tryz.underlying76
  a72 := Tryz.isAgg76
  z72 := Tryz.sizeOf76
  v72 := Tryz.zeroValue76
  t75 := Tryz.underlying78
  a75 := Tryz.isAgg78
  z75 := Tryz.sizeOf78
  v75 := Tryz.zeroValue78
  t76 := Tryz.underlying79
  a76 := Tryz.isAgg79
  z76 := Tryz.sizeOf79
  v76 := Tryz.zeroValue79
  t127 := Tryz.underlying105
  a127 := Tryz.isAgg105
  z127 := Tryz.sizeOf105
  v127 := Tryz.zeroValue105
  t164 := Tryz.underlying127
  a164 := Tryz.isAgg127
  z164 := Tryz.sizeOf127
  v164 := Tryz.zeroValue127 }
theorem Tryz.Builder_Extra_156 : Builder.Extra Tryz.prog Tryz.lays156_ren := {
  sizeBuilder := by kernel_rfl
  liesBuilder := by kernel_rfl
  t5 := Tryz.underlying5
  a5 := Tryz.isAgg5
  z5 := Tryz.sizeOf5
  v5 := Tryz.zeroValue5
  infoByte := by kernel_rfl
  cellsByte := by kernel_rfl
  sizeByte := by kernel_rfl
  neB5 := by decide }
open Go.RowKit in
theorem Tryz.strings_Join_none (a : Option Addr) (c : Nat) (sep : ByteArray) (w : World) :
    Calls Tryz.prog 48 #[.slice a 0 c, .string sep] w fun e w' => e = .returned (.string ⟨#[]⟩) ∧ w' = w := Any.strings_Join_none Tryz.lays156 Tryz.Builder_Extra_156 a c sep w
open Go.RowKit in
theorem Tryz.strings_Join (bk o c : Nat) (xs : List ByteArray) (sep : ByteArray) (w : World) (hcells : ∀ (j : Nat) x, xs[j]? = some x → w.cell? ⟨bk, o + j, none⟩ = some (.string x)) (hbk : bk < w.heap.size) (hN : xs.length ≤ 140737488355328) (hcap : xs.length ≤ c) (hlen : (Lib.join (xs.map (·.data.toList)) sep.data.toList).length ≤ 140737488355328) :
    Calls Tryz.prog 48 #[.slice (some ⟨bk, o, none⟩) xs.length c, .string sep] w fun e w' => e = .returned (.string ⟨(Lib.join (xs.map (·.data.toList)) sep.data.toList).toArray⟩) ∧ Below w.heap.size w w' := Any.strings_Join Tryz.lays156 Tryz.Builder_Extra_156 bk o c xs sep w hcells hbk hN hcap hlen
def Tryz.lays103_ren : Go.Shelf.Ren := ⟨fun | 103 => 41 | 210 => 65 | 206 => 103 | n => n, fun | 9 => 9 | 4 => 4 | 24 => 91 | 3 => 3 | n => n, fun | n => n⟩
theorem Tryz.lays103 : Go.Proofs.Lays.n103 Tryz.prog Tryz.lays103_ren := {
  mixed := by kernel_rfl
  f103 := Tryz.func41.trans (congrArg some (by kernel_rfl))
  f206 := Tryz.func103.trans (congrArg some (by kernel_rfl))
  f210 := Tryz.func65.trans (congrArg some (by kernel_rfl))
  t3 := Tryz.underlying3
  a3 := Tryz.isAgg3
  z3 := Tryz.sizeOf3
  v3 := Tryz.zeroValue3
  t4 := Tryz.underlying4
  a4 := Tryz.isAgg4
  z4 := Tryz.sizeOf4
  v4 := Tryz.zeroValue4
  t9 := Tryz.underlying9
  a9 := Tryz.isAgg9
  z9 := Tryz.sizeOf9
  v9 := Tryz.zeroValue9
  t24 := Tryz.underlying91
  a24 := Tryz.isAgg91
  z24 := Tryz.sizeOf91
  v24 := Tryz.zeroValue91 }
open Go.RowKit in
theorem Tryz.strings_CutPrefix (s p : ByteArray) (w : World) :
    Calls Tryz.prog 41 #[.string s, .string p] w fun e w' => e = .returned (.tuple #[.string ⟨(Lib.trimPrefix s.data.toList p.data.toList).toArray⟩, .bool (Lib.hasPrefix s.data.toList p.data.toList)]) ∧ w' = w := Any.strings_CutPrefix Tryz.lays103 s p w
def Tryz.laysM171_ren : Go.Shelf.Ren := ⟨fun | 171 => 83 | 243 => 116 | 246 => 114 | 283 => 141 | 284 => 142 | 285 => 143 | 286 => 144 | 129 => 158 | 317 => 157 | 318 => 159 | 319 => 160 | 320 => 161 | 337 => 175 | 338 => 176 | n => n, fun | 3 => 3 | 9 => 9 | 2 => 2 | 4 => 4 | 171 => 164 | 0 => 0 | 53 => 60 | 37 => 22 | 5 => 5 | 173 => 167 | 212 => 196 | 51 => 138 | 20 => 20 | 213 => 197 | 46 => 89 | 232 => 44 | 233 => 222 | n => n, fun | 17 => 1 | 18 => 6 | 19 => 7 | n => n⟩
theorem Tryz.laysM171 : Go.Proofs.LaysM.n171 Tryz.prog Tryz.laysM171_ren := {
  mixed := by kernel_rfl
  f129 := Tryz.func158.trans (congrArg some (by kernel_rfl))
  f171 := Tryz.func83.trans (congrArg some (by kernel_rfl))
  f243 := Tryz.func116.trans (congrArg some (by kernel_rfl))
  f246 := Tryz.func114.trans (congrArg some (by kernel_rfl))
  f283 := Tryz.func141.trans (congrArg some (by kernel_rfl))
  f284 := Tryz.func142.trans (congrArg some (by kernel_rfl))
  f285 := Tryz.func143.trans (congrArg some (by kernel_rfl))
  f286 := Tryz.func144.trans (congrArg some (by kernel_rfl))
  f317 := Tryz.func157.trans (congrArg some (by kernel_rfl))
  f318 := Tryz.func159.trans (congrArg some (by kernel_rfl))
  f319 := Tryz.func160.trans (congrArg some (by kernel_rfl))
  f320 := Tryz.func161.trans (congrArg some (by kernel_rfl))
  f337 := Tryz.func175.trans (congrArg some (by kernel_rfl))
  f338 := Tryz.func176.trans (congrArg some (by kernel_rfl))
  t0 := Tryz.underlying0
  a0 := Tryz.isAgg0
  z0 := Tryz.sizeOf0
  v0 := Tryz.zeroValue0
  t2 := Tryz.underlying2
  a2 := Tryz.isAgg2
  z2 := Tryz.sizeOf2
  v2 := Tryz.zeroValue2
  t3 := Tryz.underlying3
  a3 := Tryz.isAgg3
  z3 := Tryz.sizeOf3
  v3 := Tryz.zeroValue3
  t4 := Tryz.underlying4
  a4 := Tryz.isAgg4
  z4 := Tryz.sizeOf4
  v4 := Tryz.zeroValue4
  t5 := Tryz.underlying5
  a5 := Tryz.isAgg5
  z5 := Tryz.sizeOf5
  v5 := Tryz.zeroValue5
  t9 := Tryz.underlying9
  a9 := Tryz.isAgg9
  z9 := Tryz.sizeOf9
  v9 := Tryz.zeroValue9
  t20 := Tryz.underlying20
  a20 := Tryz.isAgg20
  z20 := Tryz.sizeOf20
  v20 := Tryz.zeroValue20
  t37 := Tryz.underlying22
  a37 := Tryz.isAgg22
  z37 := Tryz.sizeOf22
  v37 := Tryz.zeroValue22
  t46 := Tryz.underlying89
  a46 := Tryz.isAgg89
  z46 := Tryz.sizeOf89
  v46 := Tryz.zeroValue89
  t51 := Tryz.underlying138
  a51 := Tryz.isAgg138
  z51 := Tryz.sizeOf138
  v51 := Tryz.zeroValue138
  t53 := Tryz.underlying60
  a53 := Tryz.isAgg60
  z53 := Tryz.sizeOf60
  v53 := Tryz.zeroValue60
  t171 := Tryz.underlying164
  a171 := Tryz.isAgg164
  z171 := Tryz.sizeOf164
  v171 := Tryz.zeroValue164
  t173 := Tryz.underlying167
  a173 := Tryz.isAgg167
  z173 := Tryz.sizeOf167
  v173 := Tryz.zeroValue167
  t212 := Tryz.underlying196
  a212 := Tryz.isAgg196
  z212 := Tryz.sizeOf196
  v212 := Tryz.zeroValue196
  t213 := Tryz.underlying197
  a213 := Tryz.isAgg197
  z213 := Tryz.sizeOf197
  t232 := Tryz.underlying44
  a232 := Tryz.isAgg44
  z232 := Tryz.sizeOf44
  v232 := Tryz.zeroValue44
  t233 := Tryz.underlying222
  a233 := Tryz.isAgg222
  z233 := Tryz.sizeOf222
  v233 := Tryz.zeroValue222
  g17 := by kernel_rfl
  g18 := by kernel_rfl
  g19 := by kernel_rfl
  i0 := by kernel_rfl
  i2 := by kernel_rfl
  i3 := by kernel_rfl
  i4 := by kernel_rfl
  i5 := by kernel_rfl
  i9 := by kernel_rfl
  i20 := by kernel_rfl
  i37 := by kernel_rfl
  i46 := by kernel_rfl
  i51 := by kernel_rfl
  i53 := by kernel_rfl
  i171 := by kernel_rfl
  i173 := by kernel_rfl
  i212 := by kernel_rfl
  i232 := by kernel_rfl
  i233 := by kernel_rfl
  m17 := by kernel_rfl
  m18 := by kernel_rfl
  m19 := by kernel_rfl }
open Go.RowKit Go.Sort Go.Lib in
theorem Tryz.strconv_Itoa (n : Int) (h0 : -9223372036854775808 ≤ n) (h1 : n ≤ 9223372036854775807) (w : World) (htab : Lib.TabIs Tryz.prog w "internal/strconv.uint64pow10" .u64 Lib.pow10Tab) :
    Calls Tryz.prog 83 #[.int .i64 n] w fun e w' => e = .returned (.string ⟨(Lib.itoa n).toArray⟩) ∧ ∃ k os, w' = grow (w.drewN k) os := Any.strconv_Itoa Tryz.laysM171 n h0 h1 w htab
def Tryz.laysM173_ren : Go.Shelf.Ren := ⟨fun | 173 => 77 | 246 => 114 | 283 => 141 | 284 => 142 | 285 => 143 | 286 => 144 | 129 => 158 | 317 => 157 | 318 => 159 | 319 => 160 | 320 => 161 | 337 => 175 | 338 => 176 | n => n, fun | 2 => 2 | 3 => 3 | 9 => 9 | 4 => 4 | 171 => 164 | 0 => 0 | 53 => 60 | 37 => 22 | 5 => 5 | 173 => 167 | 212 => 196 | 51 => 138 | 20 => 20 | 213 => 197 | 46 => 89 | 232 => 44 | 233 => 222 | n => n, fun | 17 => 1 | 18 => 6 | 19 => 7 | n => n⟩
theorem Tryz.laysM173 : Go.Proofs.LaysM.n173 Tryz.prog Tryz.laysM173_ren := {
  mixed := by kernel_rfl
  f129 := Tryz.func158.trans (congrArg some (by kernel_rfl))
  f173 := Tryz.func77.trans (congrArg some (by kernel_rfl))
  f246 := Tryz.func114.trans (congrArg some (by kernel_rfl))
  f283 := Tryz.func141.trans (congrArg some (by kernel_rfl))
  f284 := Tryz.func142.trans (congrArg some (by kernel_rfl))
  f285 := Tryz.func143.trans (congrArg some (by kernel_rfl))
  f286 := Tryz.func144.trans (congrArg some (by kernel_rfl))
  f317 := Tryz.func157.trans (congrArg some (by kernel_rfl))
  f318 := Tryz.func159.trans (congrArg some (by kernel_rfl))
  f319 := Tryz.func160.trans (congrArg some (by kernel_rfl))
  f320 := Tryz.func161.trans (congrArg some (by kernel_rfl))
  f337 := Tryz.func175.trans (congrArg some (by kernel_rfl))
  f338 := Tryz.func176.trans (congrArg some (by kernel_rfl))
  t0 := Tryz.underlying0
  a0 := Tryz.isAgg0
  z0 := Tryz.sizeOf0
  v0 := Tryz.zeroValue0
  t2 := Tryz.underlying2
  a2 := Tryz.isAgg2
  z2 := Tryz.sizeOf2
  v2 := Tryz.zeroValue2
  t3 := Tryz.underlying3
  a3 := Tryz.isAgg3
  z3 := Tryz.sizeOf3
  v3 := Tryz.zeroValue3
  t4 := Tryz.underlying4
  a4 := Tryz.isAgg4
  z4 := Tryz.sizeOf4
  v4 := Tryz.zeroValue4
  t5 := Tryz.underlying5
  a5 := Tryz.isAgg5
  z5 := Tryz.sizeOf5
  v5 := Tryz.zeroValue5
  t9 := Tryz.underlying9
  a9 := Tryz.isAgg9
  z9 := Tryz.sizeOf9
  v9 := Tryz.zeroValue9
  t20 := Tryz.underlying20
  a20 := Tryz.isAgg20
  z20 := Tryz.sizeOf20
  v20 := Tryz.zeroValue20
  t37 := Tryz.underlying22
  a37 := Tryz.isAgg22
  z37 := Tryz.sizeOf22
  v37 := Tryz.zeroValue22
  t46 := Tryz.underlying89
  a46 := Tryz.isAgg89
  z46 := Tryz.sizeOf89
  v46 := Tryz.zeroValue89
  t51 := Tryz.underlying138
  a51 := Tryz.isAgg138
  z51 := Tryz.sizeOf138
  v51 := Tryz.zeroValue138
  t53 := Tryz.underlying60
  a53 := Tryz.isAgg60
  z53 := Tryz.sizeOf60
  v53 := Tryz.zeroValue60
  t171 := Tryz.underlying164
  a171 := Tryz.isAgg164
  z171 := Tryz.sizeOf164
  v171 := Tryz.zeroValue164
  t173 := Tryz.underlying167
  a173 := Tryz.isAgg167
  z173 := Tryz.sizeOf167
  v173 := Tryz.zeroValue167
  t212 := Tryz.underlying196
  a212 := Tryz.isAgg196
  z212 := Tryz.sizeOf196
  v212 := Tryz.zeroValue196
  t213 := Tryz.underlying197
  a213 := Tryz.isAgg197
  z213 := Tryz.sizeOf197
  t232 := Tryz.underlying44
  a232 := Tryz.isAgg44
  z232 := Tryz.sizeOf44
  v232 := Tryz.zeroValue44
  t233 := Tryz.underlying222
  a233 := Tryz.isAgg222
  z233 := Tryz.sizeOf222
  v233 := Tryz.zeroValue222
  g17 := by kernel_rfl
  g18 := by kernel_rfl
  g19 := by kernel_rfl
  i0 := by kernel_rfl
  i2 := by kernel_rfl
  i3 := by kernel_rfl
  i4 := by kernel_rfl
  i5 := by kernel_rfl
  i9 := by kernel_rfl
  i20 := by kernel_rfl
  i37 := by kernel_rfl
  i46 := by kernel_rfl
  i51 := by kernel_rfl
  i53 := by kernel_rfl
  i171 := by kernel_rfl
  i173 := by kernel_rfl
  i212 := by kernel_rfl
  i232 := by kernel_rfl
  i233 := by kernel_rfl
  m17 := by kernel_rfl
  m18 := by kernel_rfl
  m19 := by kernel_rfl }
open Go.RowKit Go.Sort Go.Lib in
theorem Tryz.strconv_FormatInt_10 (n : Int) (h0 : -9223372036854775808 ≤ n) (h1 : n ≤ 9223372036854775807) (w : World) (htab : Lib.TabIs Tryz.prog w "internal/strconv.uint64pow10" .u64 Lib.pow10Tab) :
    Calls Tryz.prog 77 #[.int .i64 n, .int .i64 10] w fun e w' => e = .returned (.string ⟨(Lib.itoa n).toArray⟩) ∧ ∃ k os, w' = grow (w.drewN k) os := Any.strconv_FormatInt_10 Tryz.laysM173 n h0 h1 w htab
def Tryz.laysC172_ren : Go.Shelf.Ren := ⟨fun | 172 => 147 | 244 => 167 | 245 => 146 | 247 => 145 | 279 => 163 | 280 => 164 | 281 => 165 | 282 => 166 | 287 => 162 | 316 => 179 | 171 => 83 | 205 => 180 | 321 => 177 | 322 => 178 | 243 => 116 | 246 => 114 | 283 => 141 | 284 => 142 | 285 => 143 | 286 => 144 | 129 => 158 | 317 => 157 | 318 => 159 | 319 => 160 | 320 => 161 | 337 => 175 | 338 => 176 | n => n, fun | 9 => 9 | 3 => 3 | 75 => 78 | 76 => 79 | 4 => 4 | 5 => 5 | 167 => 200 | 37 => 22 | 0 => 0 | 85 => 144 | 2 => 2 | 168 => 203 | 53 => 60 | 175 => 201 | 46 => 89 | 210 => 220 | 127 => 105 | 145 => 227 | 143 => 225 | 21 => 21 | 171 => 164 | 173 => 167 | 212 => 196 | 51 => 138 | 20 => 20 | 213 => 197 | 232 => 44 | 233 => 222 | 80 => 81 | n => n, fun | 15 => 4 | 16 => 5 | 17 => 1 | 18 => 6 | 19 => 7 | n => n⟩
theorem Tryz.laysC172 : Go.Proofs.LaysC.n172 Tryz.prog Tryz.laysC172_ren := {
  mixed := by kernel_rfl
  f129 := Tryz.func158.trans (congrArg some (by kernel_rfl))
  f171 := Tryz.func83.trans (congrArg some (by kernel_rfl))
  f172 := Tryz.func147.trans (congrArg some (by kernel_rfl))
  f205 := Tryz.func180.trans (congrArg some (by kernel_rfl))
  f243 := Tryz.func116.trans (congrArg some (by kernel_rfl))
  f244 := Tryz.func167.trans (congrArg some (by kernel_rfl))
  f245 := Tryz.func146.trans (congrArg some (by kernel_rfl))
  f246 := Tryz.func114.trans (congrArg some (by kernel_rfl))
  f247 := Tryz.func145.trans (congrArg some (by kernel_rfl))
  f279 := Tryz.func163.trans (congrArg some (by kernel_rfl))
  f280 := Tryz.func164.trans (congrArg some (by kernel_rfl))
  f281 := Tryz.func165.trans (congrArg some (by kernel_rfl))
  f282 := Tryz.func166.trans (congrArg some (by kernel_rfl))
  f283 := Tryz.func141.trans (congrArg some (by kernel_rfl))
  f284 := Tryz.func142.trans (congrArg some (by kernel_rfl))
  f285 := Tryz.func143.trans (congrArg some (by kernel_rfl))
  f286 := Tryz.func144.trans (congrArg some (by kernel_rfl))
  f287 := Tryz.func162.trans (congrArg some (by kernel_rfl))
  f316 := Tryz.func179.trans (congrArg some (by kernel_rfl))
  f317 := Tryz.func157.trans (congrArg some (by kernel_rfl))
  f318 := Tryz.func159.trans (congrArg some (by kernel_rfl))
  f319 := Tryz.func160.trans (congrArg some (by kernel_rfl))
  f320 := Tryz.func161.trans (congrArg some (by kernel_rfl))
  f321 := Tryz.func177.trans (congrArg some (by kernel_rfl))
  f322 := Tryz.func178.trans (congrArg some (by kernel_rfl))
  f337 := Tryz.func175.trans (congrArg some (by kernel_rfl))
  f338 := Tryz.func176.trans (congrArg some (by kernel_rfl))
  t0 := Tryz.underlying0
  a0 := Tryz.isAgg0
  z0 := Tryz.sizeOf0
  v0 := Tryz.zeroValue0
  t2 := Tryz.underlying2
  a2 := Tryz.isAgg2
  z2 := Tryz.sizeOf2
  v2 := Tryz.zeroValue2
  t3 := Tryz.underlying3
  a3 := Tryz.isAgg3
  z3 := Tryz.sizeOf3
  v3 := Tryz.zeroValue3
  t4 := Tryz.underlying4
  a4 := Tryz.isAgg4
  z4 := Tryz.sizeOf4
  v4 := Tryz.zeroValue4
  t5 := Tryz.underlying5
  a5 := Tryz.isAgg5
  z5 := Tryz.sizeOf5
  v5 := Tryz.zeroValue5
  t9 := Tryz.underlying9
  a9 := Tryz.isAgg9
  z9 := Tryz.sizeOf9
  v9 := Tryz.zeroValue9
  t20 := Tryz.underlying20
  a20 := Tryz.isAgg20
  z20 := Tryz.sizeOf20
  v20 := Tryz.zeroValue20
  t21 := Tryz.underlying21
  a21 := Tryz.isAgg21
  z21 := Tryz.sizeOf21
  v21 := Tryz.zeroValue21
  t37 := Tryz.underlying22
  a37 := Tryz.isAgg22
  z37 := Tryz.sizeOf22
  v37 := Tryz.zeroValue22
  t46 := Tryz.underlying89
  a46 := Tryz.isAgg89
  z46 := Tryz.sizeOf89
  v46 := Tryz.zeroValue89
  t51 := Tryz.underlying138
  a51 := Tryz.isAgg138
  z51 := Tryz.sizeOf138
  v51 := Tryz.zeroValue138
  t53 := Tryz.underlying60
  a53 := Tryz.isAgg60
  z53 := Tryz.sizeOf60
  v53 := Tryz.zeroValue60
  t75 := Tryz.underlying78
  a75 := Tryz.isAgg78
  z75 := Tryz.sizeOf78
  v75 := Tryz.zeroValue78
  t76 := Tryz.underlying79
  a76 := Tryz.isAgg79
  z76 := Tryz.sizeOf79
  v76 := Tryz.zeroValue79
  t85 := Tryz.underlying144
  a85 := Tryz.isAgg144
  z85 := Tryz.sizeOf144
  v85 := Tryz.zeroValue144
  t127 := Tryz.underlying105
  a127 := Tryz.isAgg105
  z127 := Tryz.sizeOf105
  v127 := Tryz.zeroValue105
  t143 := Tryz.underlying225
  a143 := Tryz.isAgg225
  z143 := Tryz.sizeOf225
  v143 := Tryz.zeroValue225
  t145 := Tryz.underlying227
  a145 := Tryz.isAgg227
  z145 := Tryz.sizeOf227
  v145 := Tryz.zeroValue227
  t167 := Tryz.underlying200
  a167 := Tryz.isAgg200
  z167 := Tryz.sizeOf200
  v167 := Tryz.zeroValue200
  t168 := Tryz.underlying203
  a168 := Tryz.isAgg203
  z168 := Tryz.sizeOf203
  v168 := Tryz.zeroValue203
  t171 := Tryz.underlying164
  a171 := Tryz.isAgg164
  z171 := Tryz.sizeOf164
  v171 := Tryz.zeroValue164
  t173 := Tryz.underlying167
  a173 := Tryz.isAgg167
  z173 := Tryz.sizeOf167
  v173 := Tryz.zeroValue167
  t175 := Tryz.underlying201
  a175 := Tryz.isAgg201
  z175 := Tryz.sizeOf201
  v175 := Tryz.zeroValue201
  t210 := Tryz.underlying220
  a210 := Tryz.isAgg220
  z210 := Tryz.sizeOf220
  v210 := Tryz.zeroValue220
  t212 := Tryz.underlying196
  a212 := Tryz.isAgg196
  z212 := Tryz.sizeOf196
  v212 := Tryz.zeroValue196
  t213 := Tryz.underlying197
  a213 := Tryz.isAgg197
  z213 := Tryz.sizeOf197
  t232 := Tryz.underlying44
  a232 := Tryz.isAgg44
  z232 := Tryz.sizeOf44
  v232 := Tryz.zeroValue44
  t233 := Tryz.underlying222
  a233 := Tryz.isAgg222
  z233 := Tryz.sizeOf222
  v233 := Tryz.zeroValue222
  g15 := by kernel_rfl
  g16 := by kernel_rfl
  g17 := by kernel_rfl
  g18 := by kernel_rfl
  g19 := by kernel_rfl
  t80 := Tryz.underlying81
  a80 := Tryz.isAgg81
  z80 := Tryz.sizeOf81
  v80 := Tryz.zeroValue81
  i0 := by kernel_rfl
  i2 := by kernel_rfl
  i3 := by kernel_rfl
  i4 := by kernel_rfl
  i5 := by kernel_rfl
  i9 := by kernel_rfl
  i20 := by kernel_rfl
  i21 := by kernel_rfl
  i37 := by kernel_rfl
  i46 := by kernel_rfl
  i51 := by kernel_rfl
  i53 := by kernel_rfl
  i75 := by kernel_rfl
  i76 := by kernel_rfl
  i80 := by kernel_rfl
  i85 := by kernel_rfl
  i127 := by kernel_rfl
  i143 := by kernel_rfl
  i145 := by kernel_rfl
  i167 := by kernel_rfl
  i168 := by kernel_rfl
  i171 := by kernel_rfl
  i173 := by kernel_rfl
  i175 := by kernel_rfl
  i210 := by kernel_rfl
  i212 := by kernel_rfl
  i232 := by kernel_rfl
  i233 := by kernel_rfl
  m15 := by kernel_rfl
  m16 := by kernel_rfl
  m17 := by kernel_rfl
  m18 := by kernel_rfl
  m19 := by kernel_rfl
  c0 := by kernel_rfl
  c2 := by kernel_rfl
  c3 := by kernel_rfl
  c4 := by kernel_rfl
  c5 := by kernel_rfl
  c9 := by kernel_rfl
  c20 := by kernel_rfl
  c21 := by kernel_rfl
  c37 := by kernel_rfl
  c46 := by kernel_rfl
  c51 := by kernel_rfl
  c53 := by kernel_rfl
  c75 := by kernel_rfl
  c76 := by kernel_rfl
  c80 := by kernel_rfl
  c85 := by kernel_rfl
  c127 := by kernel_rfl
  c143 := by kernel_rfl
  c145 := by kernel_rfl
  c167 := by kernel_rfl
  c168 := by kernel_rfl
  c171 := by kernel_rfl
  c173 := by kernel_rfl
  c175 := by kernel_rfl
  c210 := by kernel_rfl
  c212 := by kernel_rfl
  c213 := by kernel_rfl
  c232 := by kernel_rfl
  c233 := by kernel_rfl }
open Go.RowKit in
theorem Tryz.strconv_Atoi_ok (s : ByteArray) (hmax : s.size ≤ 9223372036854775806) (v : Int) (h : Lib.atoiAll s.data.toList = .ok v) (w : World) :
    Calls Tryz.prog 147 #[.string s] w fun e w' => e = .returned (.tuple #[.int .i64 v, .nilIface]) ∧ (w' = w ∨ ∃ t, w' = Lib.bytesWorld w 5 t) := Any.strconv_Atoi_ok Tryz.laysC172 s hmax v h w
open Go.RowKit in
theorem Tryz.strconv_Atoi_syntax (s : ByteArray) (hlim : s.size ≤ 281474976710656) (h : Lib.atoiAll s.data.toList = Go.Lib.NumEnd.syntax) (ev : Value) (w : World) (hv : w.cell? ⟨4, 0, none⟩ = some ev) (hev : ev = .nilIface ∨ ∃ te pe, ev = .iface te pe) :
    Calls Tryz.prog 147 #[.string s] w fun e w' => ∃ N, e = .returned (.tuple #[.int .i64 (0), .iface 203 (.pointer (some ⟨N, 0, none⟩))]) ∧ w.heap.size ≤ N ∧ w'.heap[N]? = some (.cells #[.string ⟨#[65, 116, 111, 105]⟩, .string s, ev] 220 (0, 0)) ∧ Below w.heap.size w w' := Any.strconv_Atoi_syntax Tryz.laysC172 s hlim h ev w hv hev
open Go.RowKit in
theorem Tryz.strconv_Atoi_range (s : ByteArray) (hlim : s.size ≤ 281474976710656) (h : Lib.atoiAll s.data.toList = .range) (ev : Value) (w : World) (hv : w.cell? ⟨5, 0, none⟩ = some ev) (hev : ev = .nilIface ∨ ∃ te pe, ev = .iface te pe) :
    Calls Tryz.prog 147 #[.string s] w fun e w' => ∃ N, e = .returned (.tuple #[.int .i64 (Lib.atoiSat s.data.toList), .iface 203 (.pointer (some ⟨N, 0, none⟩))]) ∧ w.heap.size ≤ N ∧ w'.heap[N]? = some (.cells #[.string ⟨#[65, 116, 111, 105]⟩, .string s, ev] 220 (0, 0)) ∧ Below w.heap.size w w' := Any.strconv_Atoi_range Tryz.laysC172 s hlim h ev w hv hev
def Tryz.laysC174_ren : Go.Shelf.Ren := ⟨fun | 174 => 115 | 247 => 145 | 245 => 146 | 287 => 162 | 279 => 163 | 280 => 164 | 281 => 165 | 282 => 166 | 321 => 177 | 322 => 178 | 316 => 179 | 171 => 83 | 205 => 180 | 243 => 116 | 246 => 114 | 283 => 141 | 284 => 142 | 285 => 143 | 286 => 144 | 129 => 158 | 317 => 157 | 318 => 159 | 319 => 160 | 320 => 161 | 337 => 175 | 338 => 176 | n => n, fun | 9 => 9 | 3 => 3 | 2 => 2 | 75 => 78 | 85 => 144 | 4 => 4 | 167 => 200 | 5 => 5 | 53 => 60 | 175 => 201 | 46 => 89 | 168 => 203 | 37 => 22 | 0 => 0 | 210 => 220 | 21 => 21 | 127 => 105 | 145 => 227 | 143 => 225 | 171 => 164 | 173 => 167 | 212 => 196 | 51 => 138 | 20 => 20 | 213 => 197 | 232 => 44 | 233 => 222 | 80 => 81 | n => n, fun | 15 => 4 | 16 => 5 | 17 => 1 | 18 => 6 | 19 => 7 | n => n⟩
theorem Tryz.laysC174 : Go.Proofs.LaysC.n174 Tryz.prog Tryz.laysC174_ren := {
  mixed := by kernel_rfl
  f129 := Tryz.func158.trans (congrArg some (by kernel_rfl))
  f171 := Tryz.func83.trans (congrArg some (by kernel_rfl))
  f174 := Tryz.func115.trans (congrArg some (by kernel_rfl))
  f205 := Tryz.func180.trans (congrArg some (by kernel_rfl))
  f243 := Tryz.func116.trans (congrArg some (by kernel_rfl))
  f245 := Tryz.func146.trans (congrArg some (by kernel_rfl))
  f246 := Tryz.func114.trans (congrArg some (by kernel_rfl))
  f247 := Tryz.func145.trans (congrArg some (by kernel_rfl))
  f279 := Tryz.func163.trans (congrArg some (by kernel_rfl))
  f280 := Tryz.func164.trans (congrArg some (by kernel_rfl))
  f281 := Tryz.func165.trans (congrArg some (by kernel_rfl))
  f282 := Tryz.func166.trans (congrArg some (by kernel_rfl))
  f283 := Tryz.func141.trans (congrArg some (by kernel_rfl))
  f284 := Tryz.func142.trans (congrArg some (by kernel_rfl))
  f285 := Tryz.func143.trans (congrArg some (by kernel_rfl))
  f286 := Tryz.func144.trans (congrArg some (by kernel_rfl))
  f287 := Tryz.func162.trans (congrArg some (by kernel_rfl))
  f316 := Tryz.func179.trans (congrArg some (by kernel_rfl))
  f317 := Tryz.func157.trans (congrArg some (by kernel_rfl))
  f318 := Tryz.func159.trans (congrArg some (by kernel_rfl))
  f319 := Tryz.func160.trans (congrArg some (by kernel_rfl))
  f320 := Tryz.func161.trans (congrArg some (by kernel_rfl))
  f321 := Tryz.func177.trans (congrArg some (by kernel_rfl))
  f322 := Tryz.func178.trans (congrArg some (by kernel_rfl))
  f337 := Tryz.func175.trans (congrArg some (by kernel_rfl))
  f338 := Tryz.func176.trans (congrArg some (by kernel_rfl))
  t0 := Tryz.underlying0
  a0 := Tryz.isAgg0
  z0 := Tryz.sizeOf0
  v0 := Tryz.zeroValue0
  t2 := Tryz.underlying2
  a2 := Tryz.isAgg2
  z2 := Tryz.sizeOf2
  v2 := Tryz.zeroValue2
  t3 := Tryz.underlying3
  a3 := Tryz.isAgg3
  z3 := Tryz.sizeOf3
  v3 := Tryz.zeroValue3
  t4 := Tryz.underlying4
  a4 := Tryz.isAgg4
  z4 := Tryz.sizeOf4
  v4 := Tryz.zeroValue4
  t5 := Tryz.underlying5
  a5 := Tryz.isAgg5
  z5 := Tryz.sizeOf5
  v5 := Tryz.zeroValue5
  t9 := Tryz.underlying9
  a9 := Tryz.isAgg9
  z9 := Tryz.sizeOf9
  v9 := Tryz.zeroValue9
  t20 := Tryz.underlying20
  a20 := Tryz.isAgg20
  z20 := Tryz.sizeOf20
  v20 := Tryz.zeroValue20
  t21 := Tryz.underlying21
  a21 := Tryz.isAgg21
  z21 := Tryz.sizeOf21
  v21 := Tryz.zeroValue21
  t37 := Tryz.underlying22
  a37 := Tryz.isAgg22
  z37 := Tryz.sizeOf22
  v37 := Tryz.zeroValue22
  t46 := Tryz.underlying89
  a46 := Tryz.isAgg89
  z46 := Tryz.sizeOf89
  v46 := Tryz.zeroValue89
  t51 := Tryz.underlying138
  a51 := Tryz.isAgg138
  z51 := Tryz.sizeOf138
  v51 := Tryz.zeroValue138
  t53 := Tryz.underlying60
  a53 := Tryz.isAgg60
  z53 := Tryz.sizeOf60
  v53 := Tryz.zeroValue60
  t75 := Tryz.underlying78
  a75 := Tryz.isAgg78
  z75 := Tryz.sizeOf78
  v75 := Tryz.zeroValue78
  t85 := Tryz.underlying144
  a85 := Tryz.isAgg144
  z85 := Tryz.sizeOf144
  v85 := Tryz.zeroValue144
  t127 := Tryz.underlying105
  a127 := Tryz.isAgg105
  z127 := Tryz.sizeOf105
  v127 := Tryz.zeroValue105
  t143 := Tryz.underlying225
  a143 := Tryz.isAgg225
  z143 := Tryz.sizeOf225
  v143 := Tryz.zeroValue225
  t145 := Tryz.underlying227
  a145 := Tryz.isAgg227
  z145 := Tryz.sizeOf227
  v145 := Tryz.zeroValue227
  t167 := Tryz.underlying200
  a167 := Tryz.isAgg200
  z167 := Tryz.sizeOf200
  v167 := Tryz.zeroValue200
  t168 := Tryz.underlying203
  a168 := Tryz.isAgg203
  z168 := Tryz.sizeOf203
  v168 := Tryz.zeroValue203
  t171 := Tryz.underlying164
  a171 := Tryz.isAgg164
  z171 := Tryz.sizeOf164
  v171 := Tryz.zeroValue164
  t173 := Tryz.underlying167
  a173 := Tryz.isAgg167
  z173 := Tryz.sizeOf167
  v173 := Tryz.zeroValue167
  t175 := Tryz.underlying201
  a175 := Tryz.isAgg201
  z175 := Tryz.sizeOf201
  v175 := Tryz.zeroValue201
  t210 := Tryz.underlying220
  a210 := Tryz.isAgg220
  z210 := Tryz.sizeOf220
  v210 := Tryz.zeroValue220
  t212 := Tryz.underlying196
  a212 := Tryz.isAgg196
  z212 := Tryz.sizeOf196
  v212 := Tryz.zeroValue196
  t213 := Tryz.underlying197
  a213 := Tryz.isAgg197
  z213 := Tryz.sizeOf197
  t232 := Tryz.underlying44
  a232 := Tryz.isAgg44
  z232 := Tryz.sizeOf44
  v232 := Tryz.zeroValue44
  t233 := Tryz.underlying222
  a233 := Tryz.isAgg222
  z233 := Tryz.sizeOf222
  v233 := Tryz.zeroValue222
  g15 := by kernel_rfl
  g16 := by kernel_rfl
  g17 := by kernel_rfl
  g18 := by kernel_rfl
  g19 := by kernel_rfl
  t80 := Tryz.underlying81
  a80 := Tryz.isAgg81
  z80 := Tryz.sizeOf81
  v80 := Tryz.zeroValue81
  i0 := by kernel_rfl
  i2 := by kernel_rfl
  i3 := by kernel_rfl
  i4 := by kernel_rfl
  i5 := by kernel_rfl
  i9 := by kernel_rfl
  i20 := by kernel_rfl
  i21 := by kernel_rfl
  i37 := by kernel_rfl
  i46 := by kernel_rfl
  i51 := by kernel_rfl
  i53 := by kernel_rfl
  i75 := by kernel_rfl
  i80 := by kernel_rfl
  i85 := by kernel_rfl
  i127 := by kernel_rfl
  i143 := by kernel_rfl
  i145 := by kernel_rfl
  i167 := by kernel_rfl
  i168 := by kernel_rfl
  i171 := by kernel_rfl
  i173 := by kernel_rfl
  i175 := by kernel_rfl
  i210 := by kernel_rfl
  i212 := by kernel_rfl
  i232 := by kernel_rfl
  i233 := by kernel_rfl
  m15 := by kernel_rfl
  m16 := by kernel_rfl
  m17 := by kernel_rfl
  m18 := by kernel_rfl
  m19 := by kernel_rfl
  c0 := by kernel_rfl
  c2 := by kernel_rfl
  c3 := by kernel_rfl
  c4 := by kernel_rfl
  c5 := by kernel_rfl
  c9 := by kernel_rfl
  c20 := by kernel_rfl
  c21 := by kernel_rfl
  c37 := by kernel_rfl
  c46 := by kernel_rfl
  c51 := by kernel_rfl
  c53 := by kernel_rfl
  c75 := by kernel_rfl
  c80 := by kernel_rfl
  c85 := by kernel_rfl
  c127 := by kernel_rfl
  c143 := by kernel_rfl
  c145 := by kernel_rfl
  c167 := by kernel_rfl
  c168 := by kernel_rfl
  c171 := by kernel_rfl
  c173 := by kernel_rfl
  c175 := by kernel_rfl
  c210 := by kernel_rfl
  c212 := by kernel_rfl
  c213 := by kernel_rfl
  c232 := by kernel_rfl
  c233 := by kernel_rfl }
open Go.RowKit in
theorem Tryz.strconv_ParseInt_10_at64_ok (s : ByteArray) (hmax : s.size ≤ 9223372036854775806) (v : Int) (h : Lib.parseIntB 64 s.data.toList = .ok v) (w : World) :
    Calls Tryz.prog 115 #[.string s, .int .i64 10, .int .i64 64] w fun e w' => e = .returned (.tuple #[.int .i64 v, .nilIface]) ∧ (w' = w ∨ ∃ t, w' = Lib.bytesWorld w 5 t) := Any.strconv_ParseInt_10_at64_ok Tryz.laysC174 s hmax v h w
open Go.RowKit in
theorem Tryz.strconv_ParseInt_10_at64_syntax (s : ByteArray) (hlim : s.size ≤ 281474976710656) (h : Lib.parseIntB 64 s.data.toList = Go.Lib.NumEnd.syntax) (ev : Value) (w : World) (hv : w.cell? ⟨4, 0, none⟩ = some ev) (hev : ev = .nilIface ∨ ∃ te pe, ev = .iface te pe) :
    Calls Tryz.prog 115 #[.string s, .int .i64 10, .int .i64 64] w fun e w' => ∃ N, e = .returned (.tuple #[.int .i64 (0), .iface 203 (.pointer (some ⟨N, 0, none⟩))]) ∧ w.heap.size ≤ N ∧ w'.heap[N]? = some (.cells #[.string ⟨#[80, 97, 114, 115, 101, 73, 110, 116]⟩, .string s, ev] 220 (0, 0)) ∧ Below w.heap.size w w' := Any.strconv_ParseInt_10_at64_syntax Tryz.laysC174 s hlim h ev w hv hev
open Go.RowKit in
theorem Tryz.strconv_ParseInt_10_at64_range (s : ByteArray) (hlim : s.size ≤ 281474976710656) (h : Lib.parseIntB 64 s.data.toList = .range) (ev : Value) (w : World) (hv : w.cell? ⟨5, 0, none⟩ = some ev) (hev : ev = .nilIface ∨ ∃ te pe, ev = .iface te pe) :
    Calls Tryz.prog 115 #[.string s, .int .i64 10, .int .i64 64] w fun e w' => ∃ N, e = .returned (.tuple #[.int .i64 (Lib.intSat 64 s.data.toList), .iface 203 (.pointer (some ⟨N, 0, none⟩))]) ∧ w.heap.size ≤ N ∧ w'.heap[N]? = some (.cells #[.string ⟨#[80, 97, 114, 115, 101, 73, 110, 116]⟩, .string s, ev] 220 (0, 0)) ∧ Below w.heap.size w w' := Any.strconv_ParseInt_10_at64_range Tryz.laysC174 s hlim h ev w hv hev
def Tryz.lays143_ren : Go.Shelf.Ren := ⟨fun | 143 => 22 | 219 => 40 | 217 => 61 | 225 => 62 | 224 => 63 | 267 => 64 | 266 => 101 | 314 => 102 | n => n, fun | 9 => 9 | 3 => 3 | 4 => 4 | 5 => 5 | 46 => 89 | 146 => 139 | 51 => 138 | n => n, fun | 1 => 0 | n => n⟩
theorem Tryz.lays143 : Go.Proofs.Lays.n143 Tryz.prog Tryz.lays143_ren := {
  mixed := by kernel_rfl
  f143 := Tryz.func22.trans (congrArg some (by kernel_rfl))
  f217 := Tryz.func61.trans (congrArg some (by kernel_rfl))
  f219 := Tryz.func40.trans (congrArg some (by kernel_rfl))
  f224 := Tryz.func63.trans (congrArg some (by kernel_rfl))
  f225 := Tryz.func62.trans (congrArg some (by kernel_rfl))
  f266 := Tryz.func101.trans (congrArg some (by kernel_rfl))
  f267 := Tryz.func64.trans (congrArg some (by kernel_rfl))
  f314 := Tryz.func102.trans (congrArg some (by kernel_rfl))
  t3 := Tryz.underlying3
  a3 := Tryz.isAgg3
  z3 := Tryz.sizeOf3
  v3 := Tryz.zeroValue3
  t4 := Tryz.underlying4
  a4 := Tryz.isAgg4
  z4 := Tryz.sizeOf4
  v4 := Tryz.zeroValue4
  t5 := Tryz.underlying5
  a5 := Tryz.isAgg5
  z5 := Tryz.sizeOf5
  v5 := Tryz.zeroValue5
  t9 := Tryz.underlying9
  a9 := Tryz.isAgg9
  z9 := Tryz.sizeOf9
  v9 := Tryz.zeroValue9
  t46 := Tryz.underlying89
  a46 := Tryz.isAgg89
  z46 := Tryz.sizeOf89
  v46 := Tryz.zeroValue89
  t51 := Tryz.underlying138
  a51 := Tryz.isAgg138
  z51 := Tryz.sizeOf138
  v51 := Tryz.zeroValue138
  t146 := Tryz.underlying139
  a146 := Tryz.isAgg139
  z146 := Tryz.sizeOf139
  v146 := Tryz.zeroValue139
  g1 := by kernel_rfl }
open Go.RowKit Go.Lib in
theorem Tryz.strings_Index_one (s : ByteArray) (c : UInt8) (w : World) :
    Calls Tryz.prog 22 #[.string s, .string ⟨#[c]⟩] w fun e w' => e = .returned (.int .i64 (Lib.indexByte s.data.toList c)) ∧ w' = w := Any.strings_Index_one Tryz.lays143 s c w
def Tryz.lays148_ren : Go.Shelf.Ren := ⟨fun | 148 => 109 | 222 => 138 | 223 => 139 | 269 => 156 | n => n, fun | 9 => 9 | 3 => 3 | 4 => 4 | 5 => 5 | 146 => 139 | 51 => 138 | 46 => 89 | n => n, fun | n => n⟩
theorem Tryz.lays148 : Go.Proofs.Lays.n148 Tryz.prog Tryz.lays148_ren := {
  mixed := by kernel_rfl
  f148 := Tryz.func109.trans (congrArg some (by kernel_rfl))
  f222 := Tryz.func138.trans (congrArg some (by kernel_rfl))
  f223 := Tryz.func139.trans (congrArg some (by kernel_rfl))
  f269 := Tryz.func156.trans (congrArg some (by kernel_rfl))
  t3 := Tryz.underlying3
  a3 := Tryz.isAgg3
  z3 := Tryz.sizeOf3
  v3 := Tryz.zeroValue3
  t4 := Tryz.underlying4
  a4 := Tryz.isAgg4
  z4 := Tryz.sizeOf4
  v4 := Tryz.zeroValue4
  t5 := Tryz.underlying5
  a5 := Tryz.isAgg5
  z5 := Tryz.sizeOf5
  v5 := Tryz.zeroValue5
  t9 := Tryz.underlying9
  a9 := Tryz.isAgg9
  z9 := Tryz.sizeOf9
  v9 := Tryz.zeroValue9
  t46 := Tryz.underlying89
  a46 := Tryz.isAgg89
  z46 := Tryz.sizeOf89
  v46 := Tryz.zeroValue89
  t51 := Tryz.underlying138
  a51 := Tryz.isAgg138
  z51 := Tryz.sizeOf138
  v51 := Tryz.zeroValue138
  t146 := Tryz.underlying139
  a146 := Tryz.isAgg139
  z146 := Tryz.sizeOf139
  v146 := Tryz.zeroValue139 }
open Go.RowKit Go.Lib in
theorem Tryz.strings_LastIndex (s sub : ByteArray) (hs : s.size < 4611686018427387904) (w : World) :
    Calls Tryz.prog 109 #[.string s, .string sub] w fun e w' => e = .returned (.int .i64 (Lib.lastIndex s.data.toList sub.data.toList)) ∧ w' = w := Any.strings_LastIndex Tryz.lays148 s sub hs w
def Tryz.lays99_ren : Go.Shelf.Ren := ⟨fun | 99 => 111 | 206 => 103 | n => n, fun | 9 => 9 | 4 => 4 | 3 => 3 | n => n, fun | n => n⟩
theorem Tryz.lays99 : Go.Proofs.Lays.n99 Tryz.prog Tryz.lays99_ren := {
  mixed := by kernel_rfl
  f99 := Tryz.func111.trans (congrArg some (by kernel_rfl))
  f206 := Tryz.func103.trans (congrArg some (by kernel_rfl))
  t3 := Tryz.underlying3
  a3 := Tryz.isAgg3
  z3 := Tryz.sizeOf3
  v3 := Tryz.zeroValue3
  t4 := Tryz.underlying4
  a4 := Tryz.isAgg4
  z4 := Tryz.sizeOf4
  v4 := Tryz.zeroValue4
  t9 := Tryz.underlying9
  a9 := Tryz.isAgg9
  z9 := Tryz.sizeOf9
  v9 := Tryz.zeroValue9 }
open Go.RowKit Go.Lib in
theorem Tryz.strings_HasPrefix (s p : ByteArray) (w : World) :
    Calls Tryz.prog 111 #[.string s, .string p] w fun e w' => e = .returned (.bool (Lib.hasPrefix s.data.toList p.data.toList)) ∧ w' = w := Any.strings_HasPrefix Tryz.lays99 s p w
def Tryz.lays100_ren : Go.Shelf.Ren := ⟨fun | 100 => 112 | 207 => 104 | n => n, fun | 9 => 9 | 4 => 4 | 3 => 3 | n => n, fun | n => n⟩
theorem Tryz.lays100 : Go.Proofs.Lays.n100 Tryz.prog Tryz.lays100_ren := {
  mixed := by kernel_rfl
  f100 := Tryz.func112.trans (congrArg some (by kernel_rfl))
  f207 := Tryz.func104.trans (congrArg some (by kernel_rfl))
  t3 := Tryz.underlying3
  a3 := Tryz.isAgg3
  z3 := Tryz.sizeOf3
  v3 := Tryz.zeroValue3
  t4 := Tryz.underlying4
  a4 := Tryz.isAgg4
  z4 := Tryz.sizeOf4
  v4 := Tryz.zeroValue4
  t9 := Tryz.underlying9
  a9 := Tryz.isAgg9
  z9 := Tryz.sizeOf9
  v9 := Tryz.zeroValue9 }
open Go.RowKit Go.Lib in
theorem Tryz.strings_HasSuffix (s p : ByteArray) (w : World) (hs : s.size ≤ 9223372036854775807) :
    Calls Tryz.prog 112 #[.string s, .string p] w fun e w' => e = .returned (.bool (Lib.hasSuffix s.data.toList p.data.toList)) ∧ w' = w := Any.strings_HasSuffix Tryz.lays100 s p w hs
def Tryz.lays102_ren : Go.Shelf.Ren := ⟨fun | 102 => 43 | 209 => 66 | 207 => 104 | n => n, fun | 9 => 9 | 4 => 4 | 3 => 3 | n => n, fun | n => n⟩
theorem Tryz.lays102 : Go.Proofs.Lays.n102 Tryz.prog Tryz.lays102_ren := {
  mixed := by kernel_rfl
  f102 := Tryz.func43.trans (congrArg some (by kernel_rfl))
  f207 := Tryz.func104.trans (congrArg some (by kernel_rfl))
  f209 := Tryz.func66.trans (congrArg some (by kernel_rfl))
  t3 := Tryz.underlying3
  a3 := Tryz.isAgg3
  z3 := Tryz.sizeOf3
  v3 := Tryz.zeroValue3
  t4 := Tryz.underlying4
  a4 := Tryz.isAgg4
  z4 := Tryz.sizeOf4
  v4 := Tryz.zeroValue4
  t9 := Tryz.underlying9
  a9 := Tryz.isAgg9
  z9 := Tryz.sizeOf9
  v9 := Tryz.zeroValue9 }
open Go.RowKit Go.Lib in
theorem Tryz.strings_TrimSuffix (s p : ByteArray) (w : World) (hs : s.size ≤ 9223372036854775807) :
    Calls Tryz.prog 43 #[.string s, .string p] w fun e w' => e = .returned (.string ⟨(Lib.trimSuffix s.data.toList p.data.toList).toArray⟩) ∧ w' = w := Any.strings_TrimSuffix Tryz.lays102 s p w hs
def Tryz.lays146_ren : Go.Shelf.Ren := ⟨fun | 146 => 45 | 221 => 67 | 268 => 105 | 138 => 106 | 143 => 22 | 195 => 133 | 197 => 134 | 218 => 135 | 219 => 40 | 260 => 154 | 217 => 61 | 225 => 62 | 224 => 63 | 267 => 64 | 266 => 101 | 314 => 102 | n => n, fun | 9 => 9 | 31 => 30 | 3 => 3 | 4 => 4 | 0 => 0 | 105 => 160 | 21 => 21 | 5 => 5 | 46 => 89 | 119 => 211 | 139 => 214 | 138 => 213 | 146 => 139 | 51 => 138 | n => n, fun | 1 => 0 | 3 => 2 | 4 => 3 | n => n⟩
theorem Tryz.lays146 : Go.Proofs.Lays.n146 Tryz.prog Tryz.lays146_ren := {
  mixed := by kernel_rfl
  f138 := Tryz.func106.trans (congrArg some (by kernel_rfl))
  f143 := Tryz.func22.trans (congrArg some (by kernel_rfl))
  f146 := Tryz.func45.trans (congrArg some (by kernel_rfl))
  f195 := Tryz.func133.trans (congrArg some (by kernel_rfl))
  f197 := Tryz.func134.trans (congrArg some (by kernel_rfl))
  f217 := Tryz.func61.trans (congrArg some (by kernel_rfl))
  f218 := Tryz.func135.trans (congrArg some (by kernel_rfl))
  f219 := Tryz.func40.trans (congrArg some (by kernel_rfl))
  f221 := Tryz.func67.trans (congrArg some (by kernel_rfl))
  f224 := Tryz.func63.trans (congrArg some (by kernel_rfl))
  f225 := Tryz.func62.trans (congrArg some (by kernel_rfl))
  f260 := Tryz.func154.trans (congrArg some (by kernel_rfl))
  f266 := Tryz.func101.trans (congrArg some (by kernel_rfl))
  f267 := Tryz.func64.trans (congrArg some (by kernel_rfl))
  f268 := Tryz.func105.trans (congrArg some (by kernel_rfl))
  f314 := Tryz.func102.trans (congrArg some (by kernel_rfl))
  t0 := Tryz.underlying0
  a0 := Tryz.isAgg0
  z0 := Tryz.sizeOf0
  v0 := Tryz.zeroValue0
  t3 := Tryz.underlying3
  a3 := Tryz.isAgg3
  z3 := Tryz.sizeOf3
  v3 := Tryz.zeroValue3
  t4 := Tryz.underlying4
  a4 := Tryz.isAgg4
  z4 := Tryz.sizeOf4
  v4 := Tryz.zeroValue4
  t5 := Tryz.underlying5
  a5 := Tryz.isAgg5
  z5 := Tryz.sizeOf5
  v5 := Tryz.zeroValue5
  t9 := Tryz.underlying9
  a9 := Tryz.isAgg9
  z9 := Tryz.sizeOf9
  v9 := Tryz.zeroValue9
  t21 := Tryz.underlying21
  a21 := Tryz.isAgg21
  z21 := Tryz.sizeOf21
  v21 := Tryz.zeroValue21
  t31 := Tryz.underlying30
  a31 := Tryz.isAgg30
  z31 := Tryz.sizeOf30
  v31 := Tryz.zeroValue30
  t46 := Tryz.underlying89
  a46 := Tryz.isAgg89
  z46 := Tryz.sizeOf89
  v46 := Tryz.zeroValue89
  t51 := Tryz.underlying138
  a51 := Tryz.isAgg138
  z51 := Tryz.sizeOf138
  v51 := Tryz.zeroValue138
  t105 := Tryz.underlying160
  a105 := Tryz.isAgg160
  z105 := Tryz.sizeOf160
  v105 := Tryz.zeroValue160
  t119 := Tryz.underlying211
  a119 := Tryz.isAgg211
  z119 := Tryz.sizeOf211
  t138 := Tryz.underlying213
  a138 := Tryz.isAgg213
  z138 := Tryz.sizeOf213
  v138 := Tryz.zeroValue213
  t139 := Tryz.underlying214
  a139 := Tryz.isAgg214
  z139 := Tryz.sizeOf214
  v139 := Tryz.zeroValue214
  t146 := Tryz.underlying139
  a146 := Tryz.isAgg139
  z146 := Tryz.sizeOf139
  v146 := Tryz.zeroValue139
  g1 := by kernel_rfl
  g3 := by kernel_rfl
  g4 := by kernel_rfl }
open Go.RowKit Go.Lib in
theorem Tryz.strings_Split (s sep : ByteArray) (m : Int) (w : World) (hs : s.size < 4294967281) (hm : w.cell? ⟨0, 0, none⟩ = some (.int .i64 m)) (h1 : 1 ≤ sep.size) :
    Calls Tryz.prog 45 #[.string s, .string sep] w fun e w' =>
      e = .returned (.slice (some ⟨w.heap.size, 0, none⟩) (Lib.countB s sep + 1) (Lib.countB s sep + 1)) ∧ w' = w.alloc (.cells ((Lib.splitB sep 0 (Lib.countB s sep) s).map Value.string).toArray 9) := Any.strings_Split Tryz.lays146 (by kernel_rfl) s sep m w hs hm h1
end Go.Proofs
end
