/- Lemmas and definitions of this claim (own texts, joined by a program; what the claim does not use is left out). -/
import Derived.Test.YtdceppjoipoohaaGreatDoorCr4
import Derived.Test.YtdceppjoipoohaaGreatDoorRows
import Derived.KernelRfl
import Derived.Laws.BitsAllLaws
section
namespace Go.Proofs.YtdceppjoipoohaaGreatDoor
open Go Go.Sy
theorem mixed : Fit Tryz.prog := ⟨by kernel_rfl, quietAll⟩
@[go_sem] theorem sz2 : szOf Tryz.prog 2 = some 1 := by kernel_rfl
@[go_sem] theorem ag2 : aggT Tryz.prog 2 = false := by kernel_rfl
attribute [go_sem] Tryz.underlying2
@[go_sem] theorem sz3 : szOf Tryz.prog 3 = some 1 := by kernel_rfl
@[go_sem] theorem ag3 : aggT Tryz.prog 3 = false := by kernel_rfl
@[go_sem] theorem zo3 : zerosOf Tryz.prog 3 = some [.int .i64 0] := by kernel_rfl
attribute [go_sem] Tryz.underlying3
@[go_sem] theorem eql3 (d : Nat) (k : IntKind) (a b : Int) : eqV Tryz.prog (d + 1) 3 (.int k a) (.int k b) = some (a == b) := eqV_int Tryz.underlying3 d k a b
@[go_sem] theorem sz4 : szOf Tryz.prog 4 = some 1 := by kernel_rfl
@[go_sem] theorem ag4 : aggT Tryz.prog 4 = false := by kernel_rfl
@[go_sem] theorem zo4 : zerosOf Tryz.prog 4 = some [.bool false] := by kernel_rfl
attribute [go_sem] Tryz.underlying4
@[go_sem] theorem eql4 (d : Nat) (a b : Bool) : eqV Tryz.prog (d + 1) 4 (.bool a) (.bool b) = some (a == b) := eqV_bool Tryz.underlying4 d a b
@[go_sem] theorem sz5 : szOf Tryz.prog 5 = some 1 := by kernel_rfl
@[go_sem] theorem ag5 : aggT Tryz.prog 5 = false := by kernel_rfl
@[go_sem] theorem by5 : Tryz.prog.bytesOf 5 = 1 := by kernel_rfl
@[go_sem] theorem zo5 : zerosOf Tryz.prog 5 = some [.int .u8 0] := by kernel_rfl
attribute [go_sem] Tryz.underlying5
attribute [go_sem] Tryz.underlying6
attribute [go_sem] Tryz.underlying7
attribute [go_sem] Tryz.underlying8
@[go_sem] theorem sz9 : szOf Tryz.prog 9 = some 1 := by kernel_rfl
@[go_sem] theorem ag9 : aggT Tryz.prog 9 = false := by kernel_rfl
@[go_sem] theorem by9 : Tryz.prog.bytesOf 9 = 16 := by kernel_rfl
@[go_sem] theorem zo9 : zerosOf Tryz.prog 9 = some [.str []] := by kernel_rfl
attribute [go_sem] Tryz.underlying9
attribute [go_sem] Tryz.underlying10
attribute [go_sem] Tryz.underlying11
attribute [go_sem] Tryz.underlying12
attribute [go_sem] Tryz.underlying13
attribute [go_sem] Tryz.underlying14
attribute [go_sem] Tryz.underlying15
attribute [go_sem] Tryz.underlying16
attribute [go_sem] Tryz.underlying17
attribute [go_sem] Tryz.underlying18
attribute [go_sem] Tryz.underlying19
attribute [go_sem] Tryz.underlying21
attribute [go_sem] Tryz.underlying22
@[go_sem] theorem sz23 : szOf Tryz.prog 23 = some 32 := by kernel_rfl
@[go_sem] theorem ag23 : aggT Tryz.prog 23 = true := by kernel_rfl
@[go_sem] theorem zo23 : zerosOf Tryz.prog 23 = some [.int .u8 0, .int .u8 0, .int .u8 0, .int .u8 0, .int .u8 0, .int .u8 0, .int .u8 0, .int .u8 0, .int .u8 0, .int .u8 0, .int .u8 0, .int .u8 0, .int .u8 0, .int .u8 0, .int .u8 0, .int .u8 0, .int .u8 0, .int .u8 0, .int .u8 0, .int .u8 0, .int .u8 0, .int .u8 0, .int .u8 0, .int .u8 0, .int .u8 0, .int .u8 0, .int .u8 0, .int .u8 0, .int .u8 0, .int .u8 0, .int .u8 0, .int .u8 0] := by kernel_rfl
attribute [go_sem] Tryz.underlying23
@[go_sem] theorem eqb23 (l1 l2 : List UInt8) (h1 : l1.length = 32) (h2 : l2.length = 32) (d : Nat) : eqV Tryz.prog (d + 2) 23 (.agg (l1.map byteC)) (.agg (l2.map byteC)) = some (l1 == l2) := eqV_bytes Tryz.underlying23 Tryz.underlying5 (by kernel_rfl) (by kernel_rfl) l1 l2 h1 h2
@[go_sem] theorem sz25 : szOf Tryz.prog 25 = some 1 := by kernel_rfl
@[go_sem] theorem ag25 : aggT Tryz.prog 25 = false := by kernel_rfl
attribute [go_sem] Tryz.underlying25
@[go_sem] theorem el25 : elemT Tryz.prog 25 = some 64 := by kernel_rfl
@[go_sem] theorem ap25 (B : List Box) (s x : CV) : appendC Tryz.prog 25 B s x = appendK Tryz.prog 64 85 B s x := appendC_eq (by kernel_rfl) (by kernel_rfl) (by kernel_rfl) B s x
attribute [go_sem] Tryz.underlying26
@[go_sem] theorem sz27 : szOf Tryz.prog 27 = some 34 := by kernel_rfl
@[go_sem] theorem ag27 : aggT Tryz.prog 27 = true := by kernel_rfl
@[go_sem] theorem zo27 : zerosOf Tryz.prog 27 = some [.int .u8 0, .int .u8 0, .int .u8 0, .int .u8 0, .int .u8 0, .int .u8 0, .int .u8 0, .int .u8 0, .int .u8 0, .int .u8 0, .int .u8 0, .int .u8 0, .int .u8 0, .int .u8 0, .int .u8 0, .int .u8 0, .int .u8 0, .int .u8 0, .int .u8 0, .int .u8 0, .int .u8 0, .int .u8 0, .int .u8 0, .int .u8 0, .int .u8 0, .int .u8 0, .int .u8 0, .int .u8 0, .int .u8 0, .int .u8 0, .int .u8 0, .int .u8 0, .int .i64 0, .nilS] := by kernel_rfl
attribute [go_sem] Tryz.underlying27
attribute [go_sem] Tryz.underlying28
@[go_sem] theorem sz33 : szOf Tryz.prog 33 = some 1 := by kernel_rfl
@[go_sem] theorem ag33 : aggT Tryz.prog 33 = false := by kernel_rfl
attribute [go_sem] Tryz.underlying33
@[go_sem] theorem el33 : elemT Tryz.prog 33 = some 5 := by kernel_rfl
@[go_sem] theorem ap33 (B : List Box) (s x : CV) : appendC Tryz.prog 33 B s x = appendK Tryz.prog 5 1 B s x := appendC_eq (by kernel_rfl) (by kernel_rfl) (by kernel_rfl) B s x
attribute [go_sem] Tryz.underlying34
@[go_sem] theorem sz40 : szOf Tryz.prog 40 = some 1 := by kernel_rfl
@[go_sem] theorem ag40 : aggT Tryz.prog 40 = false := by kernel_rfl
attribute [go_sem] Tryz.underlying40
@[go_sem] theorem el40 : elemT Tryz.prog 40 = some 9 := by kernel_rfl
@[go_sem] theorem ap40 (B : List Box) (s x : CV) : appendC Tryz.prog 40 B s x = appendK Tryz.prog 9 1 B s x := appendC_eq (by kernel_rfl) (by kernel_rfl) (by kernel_rfl) B s x
@[go_sem] theorem sz45 : szOf Tryz.prog 45 = some 16 := by kernel_rfl
@[go_sem] theorem ag45 : aggT Tryz.prog 45 = true := by kernel_rfl
@[go_sem] theorem zo45 : zerosOf Tryz.prog 45 = some [.int .u8 0, .int .u8 0, .int .u8 0, .int .u8 0, .int .u8 0, .int .u8 0, .int .u8 0, .int .u8 0, .int .u8 0, .int .u8 0, .int .u8 0, .int .u8 0, .int .u8 0, .int .u8 0, .int .u8 0, .int .u8 0] := by kernel_rfl
attribute [go_sem] Tryz.underlying45
@[go_sem] theorem eqb45 (l1 l2 : List UInt8) (h1 : l1.length = 16) (h2 : l2.length = 16) (d : Nat) : eqV Tryz.prog (d + 2) 45 (.agg (l1.map byteC)) (.agg (l2.map byteC)) = some (l1 == l2) := eqV_bytes Tryz.underlying45 Tryz.underlying5 (by kernel_rfl) (by kernel_rfl) l1 l2 h1 h2
attribute [go_sem] Tryz.underlying46
@[go_sem] theorem sz47 : szOf Tryz.prog 47 = some 17 := by kernel_rfl
@[go_sem] theorem ag47 : aggT Tryz.prog 47 = true := by kernel_rfl
@[go_sem] theorem zo47 : zerosOf Tryz.prog 47 = some [.bool false, .int .u8 0, .int .u8 0, .int .u8 0, .int .u8 0, .int .u8 0, .int .u8 0, .int .u8 0, .int .u8 0, .int .u8 0, .int .u8 0, .int .u8 0, .int .u8 0, .int .u8 0, .int .u8 0, .int .u8 0, .int .u8 0] := by kernel_rfl
attribute [go_sem] Tryz.underlying47
@[go_sem] theorem st47 : Tryz.prog.stoodInHeld 47 = false := by kernel_rfl
@[go_sem] theorem eqs47 (d : Nat) (xs ys : List CV) : eqV Tryz.prog (d + 1) 47 (.agg xs) (.agg ys) = eqF Tryz.prog d xs ys (match Tryz.prog.underlying 47 with | some (.struct fs) => fs.toList | _ => []) := by rw [Tryz.underlying47]; exact eqV_struct Tryz.underlying47 st47 d xs ys
attribute [go_sem] Tryz.underlying48
@[go_sem] theorem sz49 : szOf Tryz.prog 49 = some 18 := by kernel_rfl
@[go_sem] theorem ag49 : aggT Tryz.prog 49 = true := by kernel_rfl
@[go_sem] theorem by49 : Tryz.prog.bytesOf 49 = 32 := by kernel_rfl
@[go_sem] theorem zo49 : zerosOf Tryz.prog 49 = some [.bool false, .int .u8 0, .int .u8 0, .int .u8 0, .int .u8 0, .int .u8 0, .int .u8 0, .int .u8 0, .int .u8 0, .int .u8 0, .int .u8 0, .int .u8 0, .int .u8 0, .int .u8 0, .int .u8 0, .int .u8 0, .int .u8 0, .int .i64 0] := by kernel_rfl
attribute [go_sem] Tryz.underlying49
@[go_sem] theorem st49 : Tryz.prog.stoodInHeld 49 = false := by kernel_rfl
@[go_sem] theorem eqs49 (d : Nat) (xs ys : List CV) : eqV Tryz.prog (d + 1) 49 (.agg xs) (.agg ys) = eqF Tryz.prog d xs ys (match Tryz.prog.underlying 49 with | some (.struct fs) => fs.toList | _ => []) := by rw [Tryz.underlying49]; exact eqV_struct Tryz.underlying49 st49 d xs ys
attribute [go_sem] Tryz.underlying55
@[go_sem] theorem zo56 : zerosOf Tryz.prog 56 = some [.nilS, .int .i64 0] := by kernel_rfl
attribute [go_sem] Tryz.underlying56
@[go_sem] theorem sz59 : szOf Tryz.prog 59 = some 1 := by kernel_rfl
@[go_sem] theorem ag59 : aggT Tryz.prog 59 = false := by kernel_rfl
attribute [go_sem] Tryz.underlying59
@[go_sem] theorem el59 : elemT Tryz.prog 59 = some 49 := by kernel_rfl
@[go_sem] theorem ap59 (B : List Box) (s x : CV) : appendC Tryz.prog 59 B s x = appendK Tryz.prog 49 18 B s x := appendC_eq (by kernel_rfl) (by kernel_rfl) (by kernel_rfl) B s x
attribute [go_sem] Tryz.underlying61
@[go_sem] theorem sz62 : szOf Tryz.prog 62 = some 18 := by kernel_rfl
@[go_sem] theorem ag62 : aggT Tryz.prog 62 = true := by kernel_rfl
@[go_sem] theorem zo62 : zerosOf Tryz.prog 62 = some [.bool false, .int .u8 0, .int .u8 0, .int .u8 0, .int .u8 0, .int .u8 0, .int .u8 0, .int .u8 0, .int .u8 0, .int .u8 0, .int .u8 0, .int .u8 0, .int .u8 0, .int .u8 0, .int .u8 0, .int .u8 0, .int .u8 0, .int .i64 0] := by kernel_rfl
attribute [go_sem] Tryz.underlying62
@[go_sem] theorem st62 : Tryz.prog.stoodInHeld 62 = false := by kernel_rfl
@[go_sem] theorem eqs62 (d : Nat) (xs ys : List CV) : eqV Tryz.prog (d + 1) 62 (.agg xs) (.agg ys) = eqF Tryz.prog d xs ys (match Tryz.prog.underlying 62 with | some (.struct fs) => fs.toList | _ => []) := by rw [Tryz.underlying62]; exact eqV_struct Tryz.underlying62 st62 d xs ys
attribute [go_sem] Tryz.underlying63
@[go_sem] theorem sz64 : szOf Tryz.prog 64 = some 85 := by kernel_rfl
@[go_sem] theorem ag64 : aggT Tryz.prog 64 = true := by kernel_rfl
@[go_sem] theorem by64 : Tryz.prog.bytesOf 64 = 136 := by kernel_rfl
@[go_sem] theorem zo64 : zerosOf Tryz.prog 64 = some [.int .u8 0, .int .u8 0, .int .u8 0, .int .u8 0, .int .u8 0, .int .u8 0, .int .u8 0, .int .u8 0, .int .u8 0, .int .u8 0, .int .u8 0, .int .u8 0, .int .u8 0, .int .u8 0, .int .u8 0, .int .u8 0, .int .u8 0, .int .u8 0, .int .u8 0, .int .u8 0, .int .u8 0, .int .u8 0, .int .u8 0, .int .u8 0, .int .u8 0, .int .u8 0, .int .u8 0, .int .u8 0, .int .u8 0, .int .u8 0, .int .u8 0, .int .u8 0, .int .u8 0, .int .u8 0, .int .u8 0, .int .u8 0, .int .u8 0, .int .u8 0, .int .u8 0, .int .u8 0, .int .u8 0, .int .u8 0, .int .u8 0, .int .u8 0, .int .u8 0, .int .u8 0, .int .u8 0, .int .u8 0, .int .u8 0, .int .u8 0, .int .u8 0, .int .u8 0, .int .u8 0, .int .u8 0, .int .u8 0, .int .u8 0, .int .u8 0, .int .u8 0, .int .u8 0, .int .u8 0, .int .u8 0, .int .u8 0, .int .u8 0, .int .u8 0, .bool false, .bool false, .int .u8 0, .int .u8 0, .int .u8 0, .int .u8 0, .int .u8 0, .int .u8 0, .int .u8 0, .int .u8 0, .int .u8 0, .int .u8 0, .int .u8 0, .int .u8 0, .int .u8 0, .int .u8 0, .int .u8 0, .int .u8 0, .int .i64 0, .int .i64 0, .nilS] := by kernel_rfl
attribute [go_sem] Tryz.underlying64
attribute [go_sem] Tryz.underlying66
attribute [go_sem] Tryz.underlying67
attribute [go_sem] Tryz.underlying68
attribute [go_sem] Tryz.underlying79
attribute [go_sem] Tryz.underlying81
attribute [go_sem] Tryz.underlying82
@[go_sem] theorem zo83 : zerosOf Tryz.prog 83 = some [.int .u8 0, .int .u8 0, .int .u8 0, .int .u8 0, .int .u8 0, .int .u8 0, .int .u8 0, .int .u8 0, .int .u8 0, .int .u8 0, .int .u8 0, .int .u8 0, .int .u8 0, .int .u8 0, .int .u8 0, .int .u8 0, .int .u8 0, .int .u8 0, .int .u8 0, .int .u8 0, .int .u8 0, .int .u8 0, .int .u8 0, .int .u8 0, .int .u8 0, .int .u8 0, .int .u8 0, .int .u8 0, .int .u8 0, .int .u8 0, .int .u8 0, .int .u8 0, .int .i64 0, .nilS, .int .i64 0, .nilS, .bool false] := by kernel_rfl
attribute [go_sem] Tryz.underlying83
attribute [go_sem] Tryz.underlying98
attribute [go_sem] Tryz.underlying102
attribute [go_sem] Tryz.underlying114
attribute [go_sem] Tryz.underlying116
attribute [go_sem] Tryz.underlying117
attribute [go_sem] Tryz.underlying124
@[go_sem] theorem sz125 : szOf Tryz.prog 125 = some 256 := by kernel_rfl
@[go_sem] theorem ag125 : aggT Tryz.prog 125 = true := by kernel_rfl
@[go_sem] theorem zo125 : zerosOf Tryz.prog 125 = some [.bool false, .bool false, .bool false, .bool false, .bool false, .bool false, .bool false, .bool false, .bool false, .bool false, .bool false, .bool false, .bool false, .bool false, .bool false, .bool false, .bool false, .bool false, .bool false, .bool false, .bool false, .bool false, .bool false, .bool false, .bool false, .bool false, .bool false, .bool false, .bool false, .bool false, .bool false, .bool false, .bool false, .bool false, .bool false, .bool false, .bool false, .bool false, .bool false, .bool false, .bool false, .bool false, .bool false, .bool false, .bool false, .bool false, .bool false, .bool false, .bool false, .bool false, .bool false, .bool false, .bool false, .bool false, .bool false, .bool false, .bool false, .bool false, .bool false, .bool false, .bool false, .bool false, .bool false, .bool false, .bool false, .bool false, .bool false, .bool false, .bool false, .bool false, .bool false, .bool false, .bool false, .bool false, .bool false, .bool false, .bool false, .bool false, .bool false, .bool false, .bool false, .bool false, .bool false, .bool false, .bool false, .bool false, .bool false, .bool false, .bool false, .bool false, .bool false, .bool false, .bool false, .bool false, .bool false, .bool false, .bool false, .bool false, .bool false, .bool false, .bool false, .bool false, .bool false, .bool false, .bool false, .bool false, .bool false, .bool false, .bool false, .bool false, .bool false, .bool false, .bool false, .bool false, .bool false, .bool false, .bool false, .bool false, .bool false, .bool false, .bool false, .bool false, .bool false, .bool false, .bool false, .bool false, .bool false, .bool false, .bool false, .bool false, .bool false, .bool false, .bool false, .bool false, .bool false, .bool false, .bool false, .bool false, .bool false, .bool false, .bool false, .bool false, .bool false, .bool false, .bool false, .bool false, .bool false, .bool false, .bool false, .bool false, .bool false, .bool false, .bool false, .bool false, .bool false, .bool false, .bool false, .bool false, .bool false, .bool false, .bool false, .bool false, .bool false, .bool false, .bool false, .bool false, .bool false, .bool false, .bool false, .bool false, .bool false, .bool false, .bool false, .bool false, .bool false, .bool false, .bool false, .bool false, .bool false, .bool false, .bool false, .bool false, .bool false, .bool false, .bool false, .bool false, .bool false, .bool false, .bool false, .bool false, .bool false, .bool false, .bool false, .bool false, .bool false, .bool false, .bool false, .bool false, .bool false, .bool false, .bool false, .bool false, .bool false, .bool false, .bool false, .bool false, .bool false, .bool false, .bool false, .bool false, .bool false, .bool false, .bool false, .bool false, .bool false, .bool false, .bool false, .bool false, .bool false, .bool false, .bool false, .bool false, .bool false, .bool false, .bool false, .bool false, .bool false, .bool false, .bool false, .bool false, .bool false, .bool false, .bool false, .bool false, .bool false, .bool false, .bool false, .bool false, .bool false, .bool false, .bool false, .bool false, .bool false, .bool false, .bool false, .bool false, .bool false, .bool false, .bool false, .bool false, .bool false, .bool false, .bool false, .bool false, .bool false, .bool false] := by kernel_rfl
attribute [go_sem] Tryz.underlying125
attribute [go_sem] Tryz.underlying129
attribute [go_sem] Tryz.underlying134
attribute [go_sem] Tryz.underlying138
attribute [go_sem] Tryz.underlying139
@[go_sem] theorem zo140 : zerosOf Tryz.prog 140 = some [.int .u8 0, .int .u8 0, .int .u8 0, .int .u8 0, .int .u8 0, .int .u8 0, .int .u8 0, .int .u8 0, .int .u8 0, .int .u8 0, .int .u8 0, .int .u8 0, .int .u8 0, .int .u8 0, .int .u8 0, .int .u8 0, .int .u8 0, .int .u8 0, .int .u8 0, .int .u8 0, .int .u8 0, .int .u8 0, .int .u8 0, .int .u8 0, .int .u8 0, .int .u8 0, .int .u8 0, .int .u8 0, .int .u8 0, .int .u8 0, .int .u8 0, .int .u8 0, .int .u8 0, .int .u8 0, .int .u8 0, .int .u8 0, .int .u8 0, .int .u8 0, .int .u8 0, .int .u8 0, .int .u8 0, .int .u8 0, .int .u8 0, .int .u8 0, .int .u8 0, .int .u8 0, .int .u8 0, .int .u8 0, .int .u8 0, .int .u8 0, .int .u8 0, .int .u8 0, .int .u8 0, .int .u8 0, .int .u8 0, .int .u8 0, .int .u8 0, .int .u8 0, .int .u8 0, .int .u8 0, .int .u8 0, .int .u8 0, .int .u8 0, .int .u8 0, .int .u8 0] := by kernel_rfl
attribute [go_sem] Tryz.underlying140
attribute [go_sem] Tryz.underlying160
attribute [go_sem] Tryz.underlying161
attribute [go_sem] Tryz.underlying162
attribute [go_sem] Tryz.underlying163
attribute [go_sem] Tryz.underlying164
attribute [go_sem] Tryz.underlying166
attribute [go_sem] Tryz.underlying167
attribute [go_sem] Tryz.underlying168
attribute [go_sem] Tryz.underlying169
attribute [go_sem] Tryz.underlying170
attribute [go_sem] Tryz.underlying172
attribute [go_sem] Tryz.underlying173
attribute [go_sem] Tryz.underlying175
attribute [go_sem] Tryz.underlying176
attribute [go_sem] Tryz.underlying177
attribute [go_sem] Tryz.underlying178
theorem ca6 : callable Tryz.prog 6 = true := by kernel_rfl
theorem ca7 : callable Tryz.prog 7 = true := by kernel_rfl
theorem ca8 : callable Tryz.prog 8 = true := by kernel_rfl
theorem ca9 : callable Tryz.prog 9 = true := by kernel_rfl
theorem ca11 : callable Tryz.prog 11 = true := by kernel_rfl
theorem ca12 : callable Tryz.prog 12 = true := by kernel_rfl
theorem ca13 : callable Tryz.prog 13 = true := by kernel_rfl
theorem ca14 : callable Tryz.prog 14 = true := by kernel_rfl
theorem ca15 : callable Tryz.prog 15 = true := by kernel_rfl
theorem ca16 : callable Tryz.prog 16 = true := by kernel_rfl
theorem ca17 : callable Tryz.prog 17 = true := by kernel_rfl
theorem ca18 : callable Tryz.prog 18 = true := by kernel_rfl
theorem ca19 : callable Tryz.prog 19 = true := by kernel_rfl
theorem ca20 : callable Tryz.prog 20 = true := by kernel_rfl
theorem ca21 : callable Tryz.prog 21 = true := by kernel_rfl
theorem ca22 : callable Tryz.prog 22 = true := by kernel_rfl
theorem ca23 : callable Tryz.prog 23 = true := by kernel_rfl
theorem ca25 : callable Tryz.prog 25 = true := by kernel_rfl
theorem ca26 : callable Tryz.prog 26 = true := by kernel_rfl
theorem ca28 : callable Tryz.prog 28 = true := by kernel_rfl
theorem ca29 : callable Tryz.prog 29 = true := by kernel_rfl
theorem ca33 : callable Tryz.prog 33 = true := by kernel_rfl
theorem ca34 : callable Tryz.prog 34 = true := by kernel_rfl
theorem ca35 : callable Tryz.prog 35 = true := by kernel_rfl
theorem ca36 : callable Tryz.prog 36 = true := by kernel_rfl
theorem ca37 : callable Tryz.prog 37 = true := by kernel_rfl
theorem ca38 : callable Tryz.prog 38 = true := by kernel_rfl
theorem ca39 : callable Tryz.prog 39 = true := by kernel_rfl
theorem ca40 : callable Tryz.prog 40 = true := by kernel_rfl
theorem ca42 : callable Tryz.prog 42 = true := by kernel_rfl
theorem ca43 : callable Tryz.prog 43 = true := by kernel_rfl
theorem ca44 : callable Tryz.prog 44 = true := by kernel_rfl
theorem ca45 : callable Tryz.prog 45 = true := by kernel_rfl
theorem ca46 : callable Tryz.prog 46 = true := by kernel_rfl
theorem ca47 : callable Tryz.prog 47 = true := by kernel_rfl
theorem ca48 : callable Tryz.prog 48 = true := by kernel_rfl
theorem ca49 : callable Tryz.prog 49 = true := by kernel_rfl
theorem ca52 : callable Tryz.prog 52 = true := by kernel_rfl
theorem ca56 : callable Tryz.prog 56 = true := by kernel_rfl
theorem ca57 : callable Tryz.prog 57 = true := by kernel_rfl
theorem ca58 : callable Tryz.prog 58 = true := by kernel_rfl
theorem ca59 : callable Tryz.prog 59 = true := by kernel_rfl
theorem ca60 : callable Tryz.prog 60 = true := by kernel_rfl
theorem ca61 : callable Tryz.prog 61 = true := by kernel_rfl
theorem ca62 : callable Tryz.prog 62 = true := by kernel_rfl
theorem ca63 : callable Tryz.prog 63 = true := by kernel_rfl
theorem ca65 : callable Tryz.prog 65 = true := by kernel_rfl
theorem ca66 : callable Tryz.prog 66 = true := by kernel_rfl
theorem ca67 : callable Tryz.prog 67 = true := by kernel_rfl
theorem ca68 : callable Tryz.prog 68 = true := by kernel_rfl
theorem ca73 : callable Tryz.prog 73 = true := by kernel_rfl
theorem ca79 : callable Tryz.prog 79 = true := by kernel_rfl
theorem ca80 : callable Tryz.prog 80 = true := by kernel_rfl
theorem ca81 : callable Tryz.prog 81 = true := by kernel_rfl
theorem ca85 : callable Tryz.prog 85 = true := by kernel_rfl
theorem ca86 : callable Tryz.prog 86 = true := by kernel_rfl
theorem ca87 : callable Tryz.prog 87 = true := by kernel_rfl
theorem ca88 : callable Tryz.prog 88 = true := by kernel_rfl
theorem ca89 : callable Tryz.prog 89 = true := by kernel_rfl
theorem ca94 : callable Tryz.prog 94 = true := by kernel_rfl
theorem ca95 : callable Tryz.prog 95 = true := by kernel_rfl
theorem ca101 : callable Tryz.prog 101 = true := by kernel_rfl
theorem ca105 : callable Tryz.prog 105 = true := by kernel_rfl
theorem ca106 : callable Tryz.prog 106 = true := by kernel_rfl
theorem ca112 : callable Tryz.prog 112 = true := by kernel_rfl
theorem ca118 : callable Tryz.prog 118 = true := by kernel_rfl
end Go.Proofs.YtdceppjoipoohaaGreatDoor
end
section
namespace Go.Proofs.YtdceppjoipoohaaGreatDoor
open Go Go.Sy
set_option linter.all false
set_option maxRecDepth 100000
set_option maxHeartbeats 4000000
theorem int_byte (b : UInt8) : CV.int .u8 (b.toNat : Int) = byteC b := rfl
theorem bytes_mid (l m : List UInt8) (x : UInt8) : l.map byteC ++ byteC x :: m.map byteC = (l ++ x :: m).map byteC := by simp
section
variable {α : Type} {l m : List α} {n : Nat}
theorem take_all (h : l.length ≤ n) : l.take n = l := List.take_of_length_le h
theorem drop_all (h : l.length ≤ n) : l.drop n = [] := List.drop_eq_nil_of_le h
theorem take_app (h : l.length ≤ n) : (l ++ m).take n = l ++ m.take (n - l.length) := by rw [List.take_append, List.take_of_length_le h]
theorem drop_app (h : l.length ≤ n) : (l ++ m).drop n = m.drop (n - l.length) := by rw [List.drop_append, List.drop_eq_nil_of_le h, List.nil_append]
theorem take_app' (h : n ≤ l.length) : (l ++ m).take n = l.take n := List.take_append_of_le_length h
theorem drop_app' (h : n ≤ l.length) : (l ++ m).drop n = l.drop n ++ m := List.drop_append_of_le_length h
end
section
variable {l : List UInt8} {m : List CV} {n : Nat}
theorem take_bapp (h : l.length ≤ n) : (l.map byteC ++ m).take n = l.map byteC ++ m.take (n - l.length) := by rw [take_app (by simpa using h)]; simp
theorem drop_bapp (h : l.length ≤ n) : (l.map byteC ++ m).drop n = m.drop (n - l.length) := by rw [drop_app (by simpa using h)]; simp
theorem take_bapp' (h : n ≤ l.length) : (l.map byteC ++ m).take n = (l.take n).map byteC := by rw [take_app' (by simpa using h), bytes_take]
theorem drop_bapp' (h : n ≤ l.length) : (l.map byteC ++ m).drop n = (l.drop n).map byteC ++ m := by rw [drop_app' (by simpa using h), bytes_drop]
end
attribute [go_sem] take_all drop_all take_app drop_app take_app' drop_app' take_bapp drop_bapp take_bapp' drop_bapp'
theorem fdivL0 (a : Int) : a.fdiv 1 = a / 1 := Int.fdiv_eq_ediv_of_nonneg a (by omega)
theorem fdivL1 (a : Int) : a.fdiv 2 = a / 2 := Int.fdiv_eq_ediv_of_nonneg a (by omega)
theorem fdivL2 (a : Int) : a.fdiv 4 = a / 4 := Int.fdiv_eq_ediv_of_nonneg a (by omega)
theorem fdivL3 (a : Int) : a.fdiv 8 = a / 8 := Int.fdiv_eq_ediv_of_nonneg a (by omega)
theorem fdivL4 (a : Int) : a.fdiv 16 = a / 16 := Int.fdiv_eq_ediv_of_nonneg a (by omega)
theorem fdivL5 (a : Int) : a.fdiv 32 = a / 32 := Int.fdiv_eq_ediv_of_nonneg a (by omega)
theorem fdivL6 (a : Int) : a.fdiv 64 = a / 64 := Int.fdiv_eq_ediv_of_nonneg a (by omega)
theorem fdivL7 (a : Int) : a.fdiv 128 = a / 128 := Int.fdiv_eq_ediv_of_nonneg a (by omega)
theorem fdivL8 (a : Int) : a.fdiv 256 = a / 256 := Int.fdiv_eq_ediv_of_nonneg a (by omega)
theorem fdivL9 (a : Int) : a.fdiv 512 = a / 512 := Int.fdiv_eq_ediv_of_nonneg a (by omega)
theorem fdivL10 (a : Int) : a.fdiv 1024 = a / 1024 := Int.fdiv_eq_ediv_of_nonneg a (by omega)
theorem fdivL11 (a : Int) : a.fdiv 2048 = a / 2048 := Int.fdiv_eq_ediv_of_nonneg a (by omega)
theorem fdivL12 (a : Int) : a.fdiv 4096 = a / 4096 := Int.fdiv_eq_ediv_of_nonneg a (by omega)
theorem fdivL13 (a : Int) : a.fdiv 8192 = a / 8192 := Int.fdiv_eq_ediv_of_nonneg a (by omega)
theorem fdivL14 (a : Int) : a.fdiv 16384 = a / 16384 := Int.fdiv_eq_ediv_of_nonneg a (by omega)
theorem fdivL15 (a : Int) : a.fdiv 32768 = a / 32768 := Int.fdiv_eq_ediv_of_nonneg a (by omega)
theorem fdivL16 (a : Int) : a.fdiv 65536 = a / 65536 := Int.fdiv_eq_ediv_of_nonneg a (by omega)
theorem fdivL24 (a : Int) : a.fdiv 16777216 = a / 16777216 := Int.fdiv_eq_ediv_of_nonneg a (by omega)
theorem fdivL31 (a : Int) : a.fdiv 2147483648 = a / 2147483648 := Int.fdiv_eq_ediv_of_nonneg a (by omega)
theorem fdivL32 (a : Int) : a.fdiv 4294967296 = a / 4294967296 := Int.fdiv_eq_ediv_of_nonneg a (by omega)
theorem fdivL40 (a : Int) : a.fdiv 1099511627776 = a / 1099511627776 := Int.fdiv_eq_ediv_of_nonneg a (by omega)
theorem fdivL48 (a : Int) : a.fdiv 281474976710656 = a / 281474976710656 := Int.fdiv_eq_ediv_of_nonneg a (by omega)
theorem fdivL56 (a : Int) : a.fdiv 72057594037927936 = a / 72057594037927936 := Int.fdiv_eq_ediv_of_nonneg a (by omega)
theorem fdivL62 (a : Int) : a.fdiv 4611686018427387904 = a / 4611686018427387904 := Int.fdiv_eq_ediv_of_nonneg a (by omega)
theorem fdivL63 (a : Int) : a.fdiv 9223372036854775808 = a / 9223372036854775808 := Int.fdiv_eq_ediv_of_nonneg a (by omega)
attribute [go_sem] fdivL0 fdivL1 fdivL2 fdivL3 fdivL4 fdivL5 fdivL6 fdivL7 fdivL8 fdivL9 fdivL10 fdivL11 fdivL12 fdivL13 fdivL14 fdivL15 fdivL16 fdivL24 fdivL31 fdivL32 fdivL40 fdivL48 fdivL56 fdivL62 fdivL63
theorem head_bytes {l : List UInt8} (h : 0 < l.length) : (l.map byteC).head? = some (byteC l[0]) := by cases l with | nil => simp at h | cons x l => rfl
attribute [go_sem] head_bytes
theorem toNat_ediv' {a b : Int} (ha : 0 ≤ a) (hb : 0 ≤ b) : (a / b).toNat = a.toNat / b.toNat := by
  obtain ⟨m, rfl⟩ := Int.eq_ofNat_of_zero_le ha; obtain ⟨n, rfl⟩ := Int.eq_ofNat_of_zero_le hb
  rw [← Int.natCast_ediv, Int.toNat_natCast, Int.toNat_natCast, Int.toNat_natCast]
theorem toNat_emod' {a b : Int} (ha : 0 ≤ a) (hb : 0 ≤ b) : (a % b).toNat = a.toNat % b.toNat := by
  obtain ⟨m, rfl⟩ := Int.eq_ofNat_of_zero_le ha; obtain ⟨n, rfl⟩ := Int.eq_ofNat_of_zero_le hb
  rw [← Int.natCast_emod, Int.toNat_natCast, Int.toNat_natCast, Int.toNat_natCast]
theorem toNat_succ' {a : Int} (ha : 0 ≤ a) : (a + 1).toNat = a.toNat + 1 := by omega
attribute [go_sem] toNat_ediv' toNat_emod' toNat_succ'
theorem i64_or_nat (a b : Nat) (ha : a < 9223372036854775808) (hb : b < 9223372036854775808) : bits .or .i64 (a : Int) (b : Int) = ((a ||| b : Nat) : Int) := by
  have hx : a ||| b < 2 ^ 63 := Nat.or_lt_two_pow (by omega) (by omega)
  show IntKind.i64.wrap ((BitVec.ofInt 64 (a : Int) ||| BitVec.ofInt 64 (b : Int)).toNat : Int) = _
  rw [BitVec.toNat_or, ofInt_u64 a (by omega), ofInt_u64 b (by omega), wi64 (by omega)]
theorem i64_and_nat (a b : Nat) (ha : a < 9223372036854775808) (hb : b < 9223372036854775808) : bits .and .i64 (a : Int) (b : Int) = ((a &&& b : Nat) : Int) := by
  have hx : a &&& b < 2 ^ 63 := Nat.and_lt_two_pow _ (by omega)
  show IntKind.i64.wrap ((BitVec.ofInt 64 (a : Int) &&& BitVec.ofInt 64 (b : Int)).toNat : Int) = _
  rw [BitVec.toNat_and, ofInt_u64 a (by omega), ofInt_u64 b (by omega), wi64 (by omega)]
theorem or_even {n : Nat} {x : Int} (hn : n < 4611686018427387904) : bits .or .i64 ((n : Int) * 2) (x % 2) = (n : Int) * 2 + x % 2 := by
  obtain ⟨b, hb, hx⟩ : ∃ b : Nat, b < 2 ∧ x % 2 = b := ⟨(x % 2).toNat, by omega, by omega⟩
  rw [hx, show ((n : Int) * 2) = ((2 * n : Nat) : Int) by omega, i64_or_nat _ _ (by omega) (by omega), nat_join1 _ _ (by omega) hb]; omega
theorem div_pow_lt {n : Nat} (m : Nat) {b : Int} (h : (n : Int) < b) : 0 ≤ (n : Int) / 2 ^ m ∧ (n : Int) / 2 ^ m < b := by
  have : ((n : Int) / 2 ^ m) = ((n / 2 ^ m : Nat) : Int) := by rw [Int.natCast_ediv]; simp
  have h2 := Nat.div_le_self n (2 ^ m)
  rw [this]; generalize n / 2 ^ m = d at h2 ⊢; omega
theorem and1_u8 {x : Int} (h : 0 ≤ x ∧ x < 256) : bits .and .u8 x 1 = x % 2 := by
  obtain ⟨n, rfl⟩ := Int.eq_ofNat_of_zero_le h.1
  have := u8_and_nat n 1 (by omega) (by omega)
  rw [show ((1 : Nat) : Int) = 1 from rfl] at this
  rw [this, show (1 : Nat) = 2 ^ 1 - 1 from rfl, Nat.and_two_pow_sub_one_eq_mod]; omega
theorem and1_i64 {x : Int} (h : 0 ≤ x ∧ x < 9223372036854775808) : bits .and .i64 x 1 = x % 2 := by
  obtain ⟨n, rfl⟩ := Int.eq_ofNat_of_zero_le h.1
  have := i64_and_nat n 1 (by omega) (by omega)
  rw [show ((1 : Nat) : Int) = 1 from rfl] at this
  rw [this, show (1 : Nat) = 2 ^ 1 - 1 from rfl, Nat.and_two_pow_sub_one_eq_mod]; omega
def Grow (B0 : List Box) (sz : Nat) (c : CV) (B : List Box) (n : Nat) (cells : List CV) : Prop :=
  cells.length = n * sz ∧ ((n = 0 ∧ (c = .nilS ∨ c = .lst 0 [] true) ∧ B = B0) ∨ (0 < n ∧ ∃ m, c = .view B0.length 0 n sz false ∧ B = B0 ++ [⟨cells, m⟩]))
theorem Grow.nil (B0 : List Box) (sz : Nat) : Grow B0 sz .nilS B0 0 [] := ⟨by simp, .inl ⟨rfl, .inl rfl, rfl⟩⟩
theorem Grow.app {P : Program} {e : TypeId} {B0 : List Box} {sz : Nat} {c : CV} {B : List Box} {n : Nat} {cells : List CV} (h : Grow B0 sz c B n cells) (x : CV) (m : Nat) (news : List CV) (hx : srcC B sz x = some (m, news)) (hm : news.length = m * sz)
    (hb : (n + m) * P.bytesOf e ≤ 140737488355328 ∧ n + m ≤ 140737488355328) : ∃ c' B', appendK P e sz B c x = some (c', B') ∧ Grow B0 sz c' B' (n + m) (cells ++ news) := by
  obtain ⟨hl, h⟩ := h
  rcases Nat.eq_zero_or_pos m with rfl | hp
  · have hnil : news = [] := List.eq_nil_of_length_eq_zero (by simpa using hm)
    subst hnil
    refine ⟨c, B, ?_, by simpa using hl, by simpa using h⟩
    simp only [appendK]
    rcases h with ⟨_, rfl | rfl, _⟩ | ⟨_, _, rfl, _⟩ <;> simp [hx, appendM_nilS, appendM_lst, appendM_view]
  · rcases h with ⟨rfl, rfl | rfl, rfl⟩ | ⟨h0, k, rfl, rfl⟩
    · have hc : cells = [] := List.eq_nil_of_length_eq_zero (by simpa using hl)
      subst hc
      refine ⟨.view B.length 0 m sz false, B ++ [{ cells := news }], ?_, by simpa using hm, .inr ⟨by omega, false, by simp, by simp⟩⟩
      simp only [appendK]
      rw [Nat.zero_add] at hb
      simp [hx, appendM_nilS, appendM_lst, appendM_view, Nat.pos_iff_ne_zero.1 hp, hb]
    · have hc : cells = [] := List.eq_nil_of_length_eq_zero (by simpa using hl)
      subst hc
      refine ⟨.view B.length 0 m sz false, B ++ [{ cells := news }], ?_, by simpa using hm, .inr ⟨by omega, false, by simp, by simp⟩⟩
      simp only [appendK]
      rw [Nat.zero_add] at hb
      simp [hx, appendM_nilS, appendM_lst, appendM_view, Nat.pos_iff_ne_zero.1 hp, hb]
    · refine ⟨.view B0.length 0 (n + m) sz false, B0 ++ [⟨cells ++ news, true⟩], ?_, by simp [hl, hm, Nat.add_mul], .inr ⟨by omega, true, rfl, rfl⟩⟩
      simp only [appendK]
      simp [hx, appendM_nilS, appendM_lst, appendM_view, Nat.pos_iff_ne_zero.1 hp, hb, hl]
theorem Grow.view {B0 : List Box} {sz : Nat} {c : CV} {B : List Box} {n : Nat} {cells : List CV} (h : Grow B0 sz c B n cells) (hn : 0 < n) : ∃ m, c = .view B0.length 0 n sz false ∧ B = B0 ++ [⟨cells, m⟩] := by
  obtain ⟨_, ⟨rfl, _⟩ | ⟨_, m, h1, h2⟩⟩ := h
  · omega
  · exact ⟨m, h1, h2⟩
theorem Grow.old {B0 : List Box} {sz : Nat} {c : CV} {B : List Box} {n : Nat} {cells : List CV} (h : Grow B0 sz c B n cells) {b : Nat} {box : Box} (hb : B0[b]? = some box) : B[b]? = some box := by
  obtain ⟨hl, ⟨rfl, _, rfl⟩ | ⟨h0, m, rfl, rfl⟩⟩ := h
  · exact hb
  · rw [List.getElem?_append_left (List.getElem?_eq_some_iff.1 hb).1]; exact hb
theorem omap_app {f : CV → Option CV} : ∀ {a b : List CV}, omap f (a ++ b) = (omap f a).bind fun x => (omap f b).map (x ++ ·)
  | [], b => by rw [List.nil_append, omap_nil]; cases omap f b <;> rfl
  | c :: a, b => by rw [List.cons_append, omap_two, omap_two, omap_app]; cases f c <;> cases omap f a <;> cases omap f b <;> rfl
attribute [go_sem] omap_app
abbrev GrowB (B0 : List Box) (c : CV) (B : List Box) (l : List UInt8) : Prop := Grow B0 1 c B l.length (l.map byteC)
theorem GrowB.app {P : Program} {e : TypeId} {B0 : List Box} {c : CV} {B : List Box} {l : List UInt8} (h : GrowB B0 c B l) (x : CV) (m : List UInt8) (hx : srcC B 1 x = some (m.length, m.map byteC)) (he : P.bytesOf e = 1) (hb : l.length + m.length ≤ 140737488355328) :
    ∃ c' B', appendK P e 1 B c x = some (c', B') ∧ GrowB B0 c' B' (l ++ m) := by
  obtain ⟨c', B', h1, h2⟩ := Grow.app (P := P) (e := e) h x m.length (m.map byteC) hx (by simp) (by rw [he]; omega)
  exact ⟨c', B', h1, by simpa [GrowB] using h2⟩
end Go.Proofs.YtdceppjoipoohaaGreatDoor
end
section
namespace Go.Proofs.YtdceppjoipoohaaGreatDoor
open Go Go.Sy
set_option linter.all false
set_option maxRecDepth 100000
set_option maxHeartbeats 4000000
section
variable {α : Type} {f : α → List CV} {n : Nat}
theorem fl_len : ∀ {l : List α}, (∀ a ∈ l, (f a).length = n) → (l.flatMap f).length = l.length * n
  | [], _ => by simp
  | a :: l, hf => by rw [List.flatMap_cons, List.length_append, fl_len fun b hb => hf b (by simp [hb]), hf a (by simp), List.length_cons, Nat.succ_mul, Nat.add_comm]
theorem fl_drop : ∀ {l : List α} (i : Nat), (∀ a ∈ l, (f a).length = n) → (l.flatMap f).drop (i * n) = (l.drop i).flatMap f
  | l, 0, _ => by simp
  | [], i + 1, _ => by simp
  | a :: l, i + 1, hf => by
    rw [List.flatMap_cons, List.drop_succ_cons, Nat.succ_mul, Nat.add_comm, ← List.drop_drop, List.drop_left' (hf a (by simp)), fl_drop i fun b hb => hf b (by simp [hb])]
theorem fl_take : ∀ {l : List α} (i : Nat), (∀ a ∈ l, (f a).length = n) → (l.flatMap f).take (i * n) = (l.take i).flatMap f
  | l, 0, _ => by simp
  | [], i + 1, _ => by simp
  | a :: l, i + 1, hf => by
    have ha := hf a (by simp)
    rw [List.flatMap_cons, List.take_succ_cons, List.flatMap_cons, Nat.succ_mul, Nat.add_comm, List.take_append, List.take_of_length_le (by rw [ha]; omega), ha, Nat.add_sub_cancel_left, fl_take i fun b hb => hf b (by simp [hb])]
theorem fl_get {l : List α} (hf : ∀ a ∈ l, (f a).length = n) (i : Nat) (h : i < l.length) : ((l.flatMap f).drop (i * n)).take n = f l[i] := by
  rw [fl_drop i hf, List.drop_eq_getElem_cons h, List.flatMap_cons, List.take_left' (hf _ (List.getElem_mem h))]
end
end Go.Proofs.YtdceppjoipoohaaGreatDoor
end
section
namespace Go.Proofs.YtdceppjoipoohaaGreatDoor
open Go Go.Sy
set_option linter.all false
set_option maxRecDepth 100000
set_option maxHeartbeats 4000000
section
variable {L X : List Box} {n i : Nat} {y : Box}
theorem bx_get0 (h : L.length = n) : (L ++ X)[n]? = X[0]? := by subst h; rw [List.getElem?_append_right (Nat.le_refl _), Nat.sub_self]
theorem bx_get (h : L.length = n) : (L ++ X)[n + i]? = X[i]? := by subst h; rw [List.getElem?_append_right (by omega), Nat.add_sub_cancel_left]
theorem bx_getL (h : n < L.length) : (L ++ X)[n]? = L[n]? := List.getElem?_append_left h
theorem bx_set0 (h : L.length = n) : (L ++ X).set n y = L ++ X.set 0 y := by subst h; rw [List.set_append_right _ _ (Nat.le_refl _), Nat.sub_self]
theorem bx_set (h : L.length = n) : (L ++ X).set (n + i) y = L ++ X.set i y := by subst h; rw [List.set_append_right _ _ (by omega), Nat.add_sub_cancel_left]
theorem bx_setL (h : n < L.length) : (L ++ X).set n y = L.set n y ++ X := List.set_append_left _ _ h
theorem bx_self (h : n < L.length) : (L.set n y)[n]? = some y := List.getElem?_set_self h
theorem bx_same (h : L[n]? = some y) : L.set n y = L := by
  obtain ⟨h1, rfl⟩ := List.getElem?_eq_some_iff.1 h
  exact List.set_getElem_self h1
end
theorem bx_pack {B : List Box} {β : Nat} {b : Box} (hB : B[β]? = some b) : (∀ X, (B ++ X)[β]? = some b) ∧ (∀ X y, (B ++ X).set β y = B.set β y ++ X) ∧ (∀ y, (B.set β y)[β]? = some y) ∧ (∀ y X, (B.set β y ++ X)[β]? = some y) ∧ (∀ y z X, (B.set β y ++ X).set β z = B.set β z ++ X) ∧
    (∀ y X, (B.set β y ++ X)[B.length]? = X[0]?) ∧ (∀ y X i, (B.set β y ++ X)[B.length + i]? = X[i]?) ∧ (∀ y z X, (B.set β y ++ X).set B.length z = B.set β y ++ X.set 0 z) ∧ (∀ y z X i, (B.set β y ++ X).set (B.length + i) z = B.set β y ++ X.set i z) ∧
    (∀ X, (B ++ X)[B.length]? = X[0]?) ∧ (∀ X i, (B ++ X)[B.length + i]? = X[i]?) ∧ (∀ z X, (B ++ X).set B.length z = B ++ X.set 0 z) ∧ (∀ z X i, (B ++ X).set (B.length + i) z = B ++ X.set i z) := by
  have h := (List.getElem?_eq_some_iff.1 hB).1
  refine ⟨fun X => by rw [bx_getL h, hB], fun X y => bx_setL h, fun y => bx_self h, fun y X => by rw [bx_getL (by simpa using h), bx_self h], fun y z X => by rw [bx_setL (by simpa using h), List.set_set],
    fun y X => bx_get0 (by simp), fun y X i => bx_get (by simp), fun y z X => bx_set0 (by simp), fun y z X i => bx_set (by simp), fun X => bx_get0 rfl, fun X i => bx_get rfl, fun z X => bx_set0 rfl, fun z X i => bx_set rfl⟩
def Hid (p : Prop) : Prop := p
def Cells {α : Type} (f : α → List CV) (z : Nat) (cs : List CV) (L : List α) : Prop := ∀ (i : Nat) (h : i < L.length), i * z + z ≤ cs.length ∧ (cs.drop (i * z)).take z = f L[i]
theorem cells_pre {α : Type} {f : α → List CV} {z : Nat} {A L : List α} (hf : ∀ a ∈ A, (f a).length = z) (h : A.take L.length = L) : Cells f z (A.flatMap f) L := by
  intro i hi
  have hl : L.length ≤ A.length := by have := congrArg List.length h; rw [List.length_take] at this; omega
  have e : A[i]'(by omega) = L[i] := by
    have : (A.take L.length)[i]'(by rw [h]; exact hi) = L[i] := by congr 1
    rw [← this, List.getElem_take]
  refine ⟨?_, by rw [fl_get hf i (by omega), e]⟩
  rw [fl_len hf, ← Nat.succ_mul]
  exact Nat.mul_le_mul_right _ (by omega)
theorem cells_all {α : Type} {f : α → List CV} {z : Nat} {L : List α} (hf : ∀ a ∈ L, (f a).length = z) : Cells f z (L.flatMap f) L := cells_pre hf (List.take_length ..)
structure Row {α : Type} (f : α → List CV) (z : Nat) (B : List Box) (s : CV) (L : List α) : Prop where
  small : L.length < 1099511627776
  at_ : ∃ cs, Cells f z cs L ∧ ((∃ fl, s = .lst L.length cs fl) ∨ (∃ b cap, s = .cview b 0 L.length cap z ∧ B[b]? = some ⟨cs, false⟩) ∨ ∃ b fl m, s = .view b 0 L.length z fl ∧ B[b]? = some ⟨cs, m⟩)
structure Kept (b : Nat) (B W : List Box) : Prop where
  len : B.length ≤ W.length
  same : ∀ β, β ≠ b → β < B.length → W[β]? = B[β]?
def idxF {α : Type} (p : α → Bool) (L : List α) : Int := if L.findIdx p < L.length then (L.findIdx p : Int) else -1
theorem fI_at {α : Type} {p : α → Bool} {L : List α} {i : Nat} (h : i < L.length) (hp : p L[i] = true) (hi : i ≤ L.findIdx p) : L.findIdx p = i := by
  rcases Nat.lt_or_ge i (L.findIdx p) with h1 | h1
  · have := List.not_of_lt_findIdx h1; rw [hp] at this; cases this
  · omega
theorem fI_next {α : Type} {p : α → Bool} {L : List α} {i : Nat} (h : i < L.length) (hp : ¬ p L[i] = true) (hi : i ≤ L.findIdx p) : i + 1 ≤ L.findIdx p := by
  rcases Nat.lt_or_ge i (L.findIdx p) with h1 | h1
  · omega
  · have e : L.findIdx p = i := by omega
    have := List.findIdx_getElem (xs := L) (p := p) (w := by omega)
    simp only [e] at this
    exact absurd this hp
theorem idxF_any {α : Type} (p : α → Bool) (L : List α) : decide (0 ≤ idxF p L) = L.any p := by
  unfold idxF
  by_cases h : L.findIdx p < L.length
  · have := List.findIdx_getElem (xs := L) (p := p) (w := h)
    rw [if_pos h, List.any_eq_true.2 ⟨_, List.getElem_mem h, this⟩]; simp
  · rw [if_neg h, List.any_eq_false.2]
    · rfl
    · intro x hx hp
      exact h (List.findIdx_lt_length_of_exists ⟨x, hx, hp⟩)
theorem omap_fl {α : Type} {f : α → List CV} {g : CV → Option CV} (hf : ∀ a, omap g (f a) = some (f a)) : ∀ l : List α, omap g (l.flatMap f) = some (l.flatMap f)
  | [] => rfl
  | a :: l => by rw [List.flatMap_cons, omap_app, hf a, omap_fl hf l]; rfl
def GrowR {α : Type} (f : α → List CV) (z o : Nat) (c : CV) (B : List Box) (L : List α) : Prop := (L = [] ∧ c = .nilS) ∨ ∃ b m, L ≠ [] ∧ c = .view (b + o) 0 L.length z false ∧ B[b]? = some ⟨L.flatMap f, m⟩
theorem GrowR.app {α : Type} {f : α → List CV} {z o : Nat} {c : CV} {B : List Box} {L : List α} (h : GrowR f z o c B L) (X : List Box) : GrowR f z o c (B ++ X) L := by
  obtain ⟨h1, h2⟩ | ⟨b, m, h2, h3, h4⟩ := h
  · exact .inl ⟨h1, h2⟩
  · exact .inr ⟨b, m, h2, h3, (bx_pack h4).1 X⟩
end Go.Proofs.YtdceppjoipoohaaGreatDoor
end
section
namespace Go.Proofs.YtdceppjoipoohaaGreatDoor
open Go Go.Sy
set_option linter.all false
set_option maxRecDepth 100000
set_option maxHeartbeats 4000000
theorem kE_K00 {α : Type} {x y : α} (h : Is x y := by first | ((try simp (disch := first | omega | (simp only [yZ, yB] <;> omega) | fail) [go_sem, yY, *, cb, if_pos, if_neg, -List.map_take, -List.map_drop, -List.map_append, -List.map_reverse]); exact rfl) | fail) : Is x y := h
theorem kD_K00 {p : Prop} (h : p := by (first | omega | assumption | exact rfl | ((simp (disch := first | omega | (simp only [yZ, yB] <;> omega) | fail) [go_sem, yY, *, cb, -List.map_take, -List.map_drop, -List.map_append, -List.map_reverse]) <;> (first | done | omega | exact rfl)) | fail)) : p := h
def cb (l : List UInt8) (a : Nat) : Box := ⟨[.lst l.length (l.map byteC) false, .int .i64 a], false⟩
def nxV (l : List UInt8) (a n : Nat) : Nat := if a < l.length ∧ 0 < n then (l.getD a 0).toNat % n else 0
def nxA (l : List UInt8) (a n : Nat) : Nat := if a < l.length ∧ 0 < n then a + 1 else a
theorem nxA_le {l : List UInt8} {a n : Nat} (h : a ≤ l.length) : nxA l a n ≤ l.length := by unfold nxA; split <;> omega
theorem nxV_lt {l : List UInt8} {a n : Nat} (h : 0 < n) : nxV l a n < n := by unfold nxV; split; exact Nat.mod_lt _ h; exact h
theorem new_at {B : List Box} {args : List CV} {l : List UInt8} {n : Nat} (ha : Is args [.lst l.length (l.map byteC) false, .int .i64 n]) (hl : l.length < 9223372036854775808) : ACall Tryz.prog 8 args B fun c B' => c = .ptr B.length 0 ∧ B' = B ++ [cb (l.take n) 0] := by
  have ha : args = _ := ha
  subst ha
  have e : (min (l.length : Int) n).toNat = min n l.length := by omega
  have e2 : l.take (min n l.length) = l.take n := by
    rcases Nat.le_total n l.length with h | h
    · rw [Nat.min_eq_left h]
    · rw [Nat.min_eq_right h, List.take_of_length_le (by omega), List.take_of_length_le (by omega)]
  refine acall_intro mixed Tryz.func8 rfl ca8 (by kernel_rfl) (by rw [Tryz.ntmps8]; simp) ?_
  repeat' (first | (with_reducible first | apply jA | apply jB | apply jC | apply jD | apply jE | apply jF | apply jG | apply jH | apply jI | apply jJ | apply jK | apply jL | apply jM | apply jN | apply jO) | ((with_reducible first | apply jP | apply jQ); rfl) | ((first | ((with_reducible first | apply jR | apply jS | apply jT); rfl; rfl) | (with_reducible first | apply jU | apply jV | apply jW) | ((with_reducible first | apply jX | apply jY | apply jZ); rfl)); all_goals (first | ((with_reducible show Is _ _); exact kE) | ((with_reducible refine fun (hc : (_ : Bool) = _) => ?_); (try simp only [xZ, xY, xP, reduceCtorEq] at hc); (try (have hx : True := hc; clear hx hc)); (try exact kX)) | ((fail_if_success (with_reducible first | show Is _ _ | show ACall _ _ _ _ _)); (try ((with_reducible show _ ∨ _); exact kT))))))
  refine ⟨rfl, ?_⟩
  rw [cb, List.length_take]
  rfl
theorem left_at {B : List Box} {β : Nat} {args : List CV} {l : List UInt8} {a : Nat} (ha : Is args [.ptr β 0]) (hB : B[β]? = some (cb l a)) : ACall Tryz.prog 48 args B fun c B' => c = .bool (decide (a < l.length)) ∧ B' = B := by
  have ha : args = _ := ha
  subst ha
  rw [cb] at hB
  refine acall_intro mixed Tryz.func48 rfl ca48 (by kernel_rfl) (by rw [Tryz.ntmps48]; simp) ?_
  repeat' (first | (with_reducible first | apply jA | apply jB | apply jC | apply jD | apply jE | apply jF | apply jG | apply jH | apply jI | apply jJ | apply jK | apply jL | apply jM | apply jN | apply jO) | ((with_reducible first | apply jP | apply jQ); rfl) | ((first | ((with_reducible first | apply jR | apply jS | apply jT); rfl; rfl) | (with_reducible first | apply jU | apply jV | apply jW) | ((with_reducible first | apply jX | apply jY | apply jZ); rfl)); all_goals (first | ((with_reducible show Is _ _); exact kE) | ((with_reducible refine fun (hc : (_ : Bool) = _) => ?_); (try simp only [xZ, xY, xP, reduceCtorEq] at hc); (try (have hx : True := hc; clear hx hc)); (try exact kX)) | ((fail_if_success (with_reducible first | show Is _ _ | show ACall _ _ _ _ _)); (try ((with_reducible show _ ∨ _); exact kT))))))
  exact ⟨rfl, rfl⟩
theorem next_at {B : List Box} {β : Nat} {args : List CV} {l : List UInt8} {a n : Nat} {m : Int} (ha : Is args [.ptr β 0, .int .i64 m]) (hm : m = n) (hB : B[β]? = some (cb l a)) (hl : a ≤ l.length ∧ l.length < 4611686018427387904) : ACall Tryz.prog 21 args B fun c B' => c = .int .i64 (nxV l a n) ∧ B' = B.set β (cb l (nxA l a n)) := by
  have ha : args = _ := ha
  subst ha hm
  have hs : ∀ y, (B.set β y)[β]? = some y := fun y => bx_self (List.getElem?_eq_some_iff.1 hB).1
  have hl1 : ∀ {B : List Box} {args : List CV}, Is args [.ptr β 0] → B[β]? = some (cb l a) → ACall Tryz.prog 48 args B fun c B' => c = .bool (decide (a < l.length)) ∧ B' = B := fun h h2 => left_at h h2
  refine acall_intro mixed Tryz.func21 rfl ca21 (by kernel_rfl) (by rw [Tryz.ntmps21]; simp) ?_
  by_cases h : a < l.length ∧ 0 < n
  · rw [nxV, nxA, if_pos h, if_pos h]
    obtain ⟨h1, h2⟩ := h
    rw [cb] at hB
    repeat' (first | (with_reducible first | apply jA | apply jB | apply jC | apply jD | apply jE | apply jF | apply jG | apply jH | apply jI | apply jJ | apply jK | apply jL | apply jM | apply jN | apply jO) | ((with_reducible first | apply jP | apply jQ); rfl) | ((first | ((with_reducible first | apply jR | apply jS | apply jT); rfl; rfl) | (with_reducible first | apply jU | apply jV | apply jW) | ((with_reducible first | apply jX | apply jY | apply jZ); rfl) | ((with_reducible first | apply kA | apply kB | apply kC); rfl)); all_goals (first | ((with_reducible show Is _ _); exact kE_K00) | ((with_reducible refine fun (hc : (_ : Bool) = _) => ?_); (try simp only [xZ, xY, xP, reduceCtorEq] at hc); (try (have hx : True := hc; clear hx hc)); (try exact kX)) | ((with_reducible show ACall _ _ _ _ _); (first | ((with_reducible apply hl1) <;> exact kD_K00))) | ((fail_if_success (with_reducible first | show Is _ _ | show ACall _ _ _ _ _)); (try ((with_reducible show _ ∨ _); exact kT))))))
    rw [List.getD_eq_getElem?_getD, List.getElem?_eq_getElem h1, Option.getD_some, cb]
    exact ⟨rfl, rfl⟩
  · rw [nxV, nxA, if_neg h, if_neg h, bx_same hB]
    by_cases h1 : a < l.length
    · have : n = 0 := by omega
      subst this
      repeat' (first | (with_reducible first | apply jA | apply jB | apply jC | apply jD | apply jE | apply jF | apply jG | apply jH | apply jI | apply jJ | apply jK | apply jL | apply jM | apply jN | apply jO) | ((with_reducible first | apply jP | apply jQ); rfl) | ((first | ((with_reducible first | apply jR | apply jS | apply jT); rfl; rfl) | (with_reducible first | apply jU | apply jV | apply jW) | ((with_reducible first | apply jX | apply jY | apply jZ); rfl) | ((with_reducible first | apply kA | apply kB | apply kC); rfl)); all_goals (first | ((with_reducible show Is _ _); exact kE) | ((with_reducible refine fun (hc : (_ : Bool) = _) => ?_); (try simp only [xZ, xY, xP, reduceCtorEq] at hc); (try (have hx : True := hc; clear hx hc)); (try exact kX)) | ((with_reducible show ACall _ _ _ _ _); (first | ((with_reducible apply hl1) <;> exact kD))) | ((fail_if_success (with_reducible first | show Is _ _ | show ACall _ _ _ _ _)); (try ((with_reducible show _ ∨ _); exact kT))))))
      all_goals exact ⟨rfl, rfl⟩
    · repeat' (first | (with_reducible first | apply jA | apply jB | apply jC | apply jD | apply jE | apply jF | apply jG | apply jH | apply jI | apply jJ | apply jK | apply jL | apply jM | apply jN | apply jO) | ((with_reducible first | apply jP | apply jQ); rfl) | ((first | ((with_reducible first | apply jR | apply jS | apply jT); rfl; rfl) | (with_reducible first | apply jU | apply jV | apply jW) | ((with_reducible first | apply jX | apply jY | apply jZ); rfl) | ((with_reducible first | apply kA | apply kB | apply kC); rfl)); all_goals (first | ((with_reducible show Is _ _); exact kE) | ((with_reducible refine fun (hc : (_ : Bool) = _) => ?_); (try simp only [xZ, xY, xP, reduceCtorEq] at hc); (try (have hx : True := hc; clear hx hc)); (try exact kX)) | ((with_reducible show ACall _ _ _ _ _); (first | ((with_reducible apply hl1) <;> exact kD))) | ((fail_if_success (with_reducible first | show Is _ _ | show ACall _ _ _ _ _)); (try ((with_reducible show _ ∨ _); exact kT))))))
      all_goals exact ⟨rfl, rfl⟩
end Go.Proofs.YtdceppjoipoohaaGreatDoor
end
section
namespace Go.Sy
set_option linter.all false
open Go.RowKit (Below)
section
variable {P : Program} {I I' : Nat → Nat → Prop} {μ : List (List Place)} {w w' : World} {B : List Box}
theorem acall_of_calls {f : FuncId} {args : List CV} {Q : CV → Prop} (hc : callable P f = true)
    (h : ∀ (I : Nat → Nat → Prop) (μ : List (List Place)) (w : World) (vs : List Value), TabsOk I w → (∀ b j, I b j → b < w.heap.size) → R I μ w false args vs →
      Calls P f vs.toArray w fun e w' => ∃ c v, e = .returned v ∧ Q c ∧ Below w.heap.size w w' ∧ V (fun b j => I b j ∨ (w.heap.size ≤ b ∧ b < w'.heap.size)) μ w' c v) :
    ACall P f args B fun c B' => Q c ∧ B' = B :=
  ⟨hc, fun N I μ w vs hB hv => (h I μ w vs hB.tabs hB.imm hv).mono fun e w' ⟨c, v, he, hq, hbel, hval⟩ => by
    obtain ⟨g1, g2, g3⟩ := hB.behind (I2 := fun b j => I b j ∨ (w.heap.size ≤ b ∧ b < w'.heap.size)) hbel (fun b j h => .inl h) (fun b j h => h)
    exact ⟨c, v, B, _, μ, he, ⟨hq, rfl⟩, ⟨hval, g1, g2, g3⟩⟩⟩
theorem R.str_cons {one : Bool} {s : List UInt8} {cs : List CV} {vs : List Value} (h : R I μ w one (.str s :: cs) vs) : ∃ ws, vs = .string ⟨s.toArray⟩ :: ws ∧ R I μ w one cs ws := by
  cases h with
  | str s tl => exact ⟨_, rfl, tl⟩
theorem R.int_cons {one : Bool} {k : IntKind} {n : Int} {cs : List CV} {vs : List Value} (h : R I μ w one (.int k n :: cs) vs) : ∃ ws, vs = .int k n :: ws ∧ R I μ w one cs ws := by
  cases h with
  | int k n tl => exact ⟨_, rfl, tl⟩
theorem R.none {one : Bool} {vs : List Value} (h : R I μ w one [] vs) : vs = [] := by cases h; rfl
theorem Below.same : Below w.heap.size w w := ⟨rfl, rfl, rfl, Nat.le_refl _, fun _ _ => rfl⟩
theorem Below.drewN' (n : Nat) : Below w.heap.size w (w.drewN n) := ⟨rfl, rfl, rfl, Nat.le_refl _, fun _ _ => rfl⟩
end
end Go.Sy
end
section
namespace Go.Proofs.YtdceppjoipoohaaGreatDoor
open Go Go.Sy
set_option linter.all false
set_option maxRecDepth 100000
set_option maxHeartbeats 4000000
theorem kE_ZA0 {α : Type} {x y : α} (h : Is x y := by first | ((try simp (disch := first | omega | (simp only [yZ, yB] <;> omega) | fail) [go_sem, yY, *, bx_get0, bx_get, bx_set0, bx_set, if_pos, if_neg, -List.map_take, -List.map_drop, -List.map_append, -List.map_reverse]); exact rfl) | fail) : Is x y := h
theorem kD_ZA0 {p : Prop} (h : p := by (first | omega | assumption | exact rfl | ((simp (disch := first | omega | (simp only [yZ, yB] <;> omega) | fail) [go_sem, yY, *, bx_get0, bx_get, bx_set0, bx_set, -List.map_take, -List.map_drop, -List.map_append, -List.map_reverse]) <;> (first | done | omega | exact rfl)) | fail)) : p := h
def blank (c : UInt8) : Bool := c == 32 || c == 9
def setS : List Bool := (List.range 256).map fun i => i == 32 || i == 9
def setS1 : List Bool := (List.range 256).map fun i => i == 32
def trimLs (l : List UInt8) : List UInt8 := l.dropWhile blank
def trimR (l : List UInt8) : List UInt8 := (l.reverse.dropWhile blank).reverse
def trimT (l : List UInt8) : List UInt8 := trimLs (trimR l)
def strLen (c : CV) : Nat := match c with | .str l => l.length | _ => 0
theorem trimR_snoc (l : List UInt8) (c : UInt8) : trimR (l ++ [c]) = if blank c then trimR l else l ++ [c] := by
  rw [trimR, List.reverse_append, List.reverse_singleton, List.singleton_append, List.dropWhile_cons]
  split
  · rfl
  · simp
theorem trimL_cons (l : List UInt8) (c : UInt8) : trimLs (c :: l) = if blank c then trimLs l else c :: l := by
  rw [trimLs, List.dropWhile_cons]; rfl
theorem setS_get (c : UInt8) : (setS.map CV.bool)[c.toNat]'(by have := c.toNat_lt; simp [setS]; omega) = .bool (blank c) := by
  simp only [setS, List.getElem_map, List.getElem_range]
  congr 1
  rw [blank, Bool.eq_iff_iff]
  simp only [Bool.or_eq_true, beq_iff_eq, ← UInt8.toNat_inj]
  exact Iff.rfl
theorem contains_at {B : List Box} {β : Nat} {args : List CV} {c : UInt8} (ha : Is args [.ptr β 0, byteC c]) (hB : B[β]? = some ⟨setS.map CV.bool, false⟩) : ACall Tryz.prog 101 args B fun r B' => r = .bool (blank c) ∧ B' = B := by
  have ha : args = _ := ha
  subst ha
  have hl : (setS.map CV.bool).length = 256 := by simp [setS]
  have hg : ∀ h, (setS.map CV.bool)[c.toNat]'h = .bool (blank c) := fun _ => setS_get c
  have hc : c.toNat < 256 := c.toNat_lt
  have hby : byteC c = .int .u8 (c.toNat : Int) := rfl
  generalize setS.map CV.bool = X at *
  refine acall_intro mixed Tryz.func101 rfl ca101 (by kernel_rfl) (by rw [Tryz.ntmps101]; simp) ?_
  repeat' (first | (with_reducible first | apply jA | apply jB | apply jC | apply jD | apply jE | apply jF | apply jG | apply jH | apply jI | apply jJ | apply jK | apply jL | apply jM | apply jN | apply jO) | ((with_reducible first | apply jP | apply jQ); rfl) | ((first | ((with_reducible first | apply jR | apply jS | apply jT); rfl; rfl) | (with_reducible first | apply jU | apply jV | apply jW) | ((with_reducible first | apply jX | apply jY | apply jZ); rfl)); all_goals (first | ((with_reducible show Is _ _); exact kE) | ((with_reducible refine fun (hc : (_ : Bool) = _) => ?_); (try simp only [xZ, xY, xP, reduceCtorEq] at hc); (try (have hx : True := hc; clear hx hc)); (try exact kX)) | ((fail_if_success (with_reducible first | show Is _ _ | show ACall _ _ _ _ _)); (try ((with_reducible show _ ∨ _); exact kT))))))
  exact ⟨rfl, rfl⟩
theorem ascii_at {B : List Box} {args : List CV} (ha : Is args [.str [32, 9]]) : ACall Tryz.prog 79 args B fun c B' => c = .tup [.agg (setS.map CV.bool), .bool true] ∧ B' = B ++ [⟨setS.map CV.bool, false⟩] := by
  have ha : args = _ := ha
  subst ha
  have e0 : repC [CV.bool false] 256 = (List.replicate 256 false).map CV.bool := by
    rw [List.map_replicate]; rfl
  have e1 : ((List.replicate 256 false).map CV.bool).take 32 ++ CV.bool true :: ((List.replicate 256 false).map CV.bool).drop 33 = setS1.map CV.bool := by rfl
  have e2 : (setS1.map CV.bool).take 9 ++ CV.bool true :: (setS1.map CV.bool).drop 10 = setS.map CV.bool := by rfl
  have l0 : ((List.replicate 256 false).map CV.bool).length = 256 := by simp
  have l1 : (setS1.map CV.bool).length = 256 := by simp [setS1]
  have l2 : (setS.map CV.bool).length = 256 := by simp [setS]
  obtain ⟨X0, hX0⟩ : ∃ X0, (List.replicate 256 false).map CV.bool = X0 := ⟨_, rfl⟩
  rw [hX0] at e0 e1 l0
  generalize setS1.map CV.bool = X1 at *
  generalize setS.map CV.bool = X2 at *
  refine acall_intro mixed Tryz.func79 rfl ca79 (by kernel_rfl) (by rw [Tryz.ntmps79]; simp) ?_
  repeat' (first | (with_reducible first | apply jA | apply jB | apply jC | apply jD | apply jE | apply jF | apply jG | apply jH | apply jI | apply jJ | apply jK | apply jL | apply jM | apply jN | apply jO) | ((with_reducible first | apply jP | apply jQ); rfl) | ((first | ((with_reducible first | apply jR | apply jS | apply jT); rfl; rfl) | (with_reducible first | apply jU | apply jV | apply jW) | ((with_reducible first | apply jX | apply jY | apply jZ); rfl)); all_goals (first | ((with_reducible show Is _ _); exact kE) | ((with_reducible refine fun (hc : (_ : Bool) = _) => ?_); (try simp only [xZ, xY, xP, reduceCtorEq] at hc); (try (have hx : True := hc; clear hx hc)); (try exact kX)) | ((fail_if_success (with_reducible first | show Is _ _ | show ACall _ _ _ _ _)); (try ((with_reducible show _ ∨ _); exact kT))))))
  refine w_loop (fun fr B' => (fr 0 = .str [32, 9] ∧ fr 2 = .ptr B.length 0) ∧ ((fr 4 = .int .i64 0 ∧ B' = B ++ [⟨X0, false⟩]) ∨ (fr 4 = .int .i64 1 ∧ B' = B ++ [⟨X1, false⟩]) ∨ (fr 4 = .int .i64 2 ∧ B' = B ++ [⟨X2, false⟩]))) (fun fr _ => 2 - natOf (fr 4)) ?_ ?_
  · exact ⟨⟨by (simp (disch := omega) [go_sem, *]) <;> (try omega), by (simp (disch := omega) [go_sem, *]) <;> (try omega)⟩, .inl ⟨by (simp (disch := omega) [go_sem, *]) <;> (try omega), by rw [← hX0]; rfl⟩⟩
  clear hX0
  rintro fr B' ⟨⟨h0, h2⟩, h⟩
  have hx : byteC 32 = .int .u8 32 := rfl
  have hy : byteC 9 = .int .u8 9 := rfl
  rcases h with ⟨h4, rfl⟩ | ⟨h4, rfl⟩ | ⟨h4, rfl⟩
  · repeat' (first | (with_reducible first | apply jA | apply jB | apply jC | apply jD | apply jE | apply jF | apply jG | apply jH | apply jI | apply jJ | apply jK | apply jL | apply jM | apply jN | apply jO) | ((with_reducible first | apply jP | apply jQ); rfl) | ((first | ((with_reducible first | apply jR | apply jS | apply jT); rfl; rfl) | (with_reducible first | apply jU | apply jV | apply jW) | ((with_reducible first | apply jX | apply jY | apply jZ); rfl)); all_goals (first | ((with_reducible show Is _ _); exact kE_ZA0) | ((with_reducible refine fun (hc : (_ : Bool) = _) => ?_); (try simp only [xZ, xY, xP, reduceCtorEq] at hc); (try (have hx : True := hc; clear hx hc)); (try exact kX)) | ((fail_if_success (with_reducible first | show Is _ _ | show ACall _ _ _ _ _)); (try ((with_reducible show _ ∨ _); exact kT))))))
    exact ⟨⟨⟨by (simp (disch := omega) [go_sem, *]) <;> (try omega), by (simp (disch := omega) [go_sem, *]) <;> (try omega)⟩, .inr (.inl ⟨by (simp (disch := omega) [go_sem, *]) <;> (try omega), rfl⟩)⟩, by (simp (disch := omega) [go_sem, *]) <;> (try omega)⟩
  · repeat' (first | (with_reducible first | apply jA | apply jB | apply jC | apply jD | apply jE | apply jF | apply jG | apply jH | apply jI | apply jJ | apply jK | apply jL | apply jM | apply jN | apply jO) | ((with_reducible first | apply jP | apply jQ); rfl) | ((first | ((with_reducible first | apply jR | apply jS | apply jT); rfl; rfl) | (with_reducible first | apply jU | apply jV | apply jW) | ((with_reducible first | apply jX | apply jY | apply jZ); rfl)); all_goals (first | ((with_reducible show Is _ _); exact kE_ZA0) | ((with_reducible refine fun (hc : (_ : Bool) = _) => ?_); (try simp only [xZ, xY, xP, reduceCtorEq] at hc); (try (have hx : True := hc; clear hx hc)); (try exact kX)) | ((fail_if_success (with_reducible first | show Is _ _ | show ACall _ _ _ _ _)); (try ((with_reducible show _ ∨ _); exact kT))))))
    exact ⟨⟨⟨by (simp (disch := omega) [go_sem, *]) <;> (try omega), by (simp (disch := omega) [go_sem, *]) <;> (try omega)⟩, .inr (.inr ⟨by (simp (disch := omega) [go_sem, *]) <;> (try omega), rfl⟩)⟩, by (simp (disch := omega) [go_sem, *]) <;> (try omega)⟩
  · repeat' (first | (with_reducible first | apply jA | apply jB | apply jC | apply jD | apply jE | apply jF | apply jG | apply jH | apply jI | apply jJ | apply jK | apply jL | apply jM | apply jN | apply jO) | ((with_reducible first | apply jP | apply jQ); rfl) | ((first | ((with_reducible first | apply jR | apply jS | apply jT); rfl; rfl) | (with_reducible first | apply jU | apply jV | apply jW) | ((with_reducible first | apply jX | apply jY | apply jZ); rfl)); all_goals (first | ((with_reducible show Is _ _); exact kE_ZA0) | ((with_reducible refine fun (hc : (_ : Bool) = _) => ?_); (try simp only [xZ, xY, xP, reduceCtorEq] at hc); (try (have hx : True := hc; clear hx hc)); (try exact kX)) | ((fail_if_success (with_reducible first | show Is _ _ | show ACall _ _ _ _ _)); (try ((with_reducible show _ ∨ _); exact kT))))))
    all_goals exact ⟨rfl, rfl⟩
theorem trimRight_at {B : List Box} {β : Nat} {args : List CV} {s : List UInt8} (ha : Is args [.str s, .ptr β 0]) (hs : s.length < 4611686018427387904) (hB : B[β]? = some ⟨setS.map CV.bool, false⟩) : ACall Tryz.prog 81 args B fun r B' => r = .str (trimR s) ∧ B' = B := by
  have ha : args = _ := ha
  subst ha
  refine acall_intro mixed Tryz.func81 rfl ca81 (by kernel_rfl) (by rw [Tryz.ntmps81]; simp) ?_
  repeat' (first | (with_reducible first | apply jA | apply jB | apply jC | apply jD | apply jE | apply jF | apply jG | apply jH | apply jI | apply jJ | apply jK | apply jL | apply jM | apply jN | apply jO) | ((with_reducible first | apply jP | apply jQ); rfl) | ((first | ((with_reducible first | apply jR | apply jS | apply jT); rfl; rfl) | (with_reducible first | apply jU | apply jV | apply jW) | ((with_reducible first | apply jX | apply jY | apply jZ); rfl)); all_goals (first | ((with_reducible show Is _ _); exact kE) | ((with_reducible refine fun (hc : (_ : Bool) = _) => ?_); (try simp only [xZ, xY, xP, reduceCtorEq] at hc); (try (have hx : True := hc; clear hx hc)); (try exact kX)) | ((fail_if_success (with_reducible first | show Is _ _ | show ACall _ _ _ _ _)); (try ((with_reducible show _ ∨ _); exact kT))))))
  refine w_loop (fun fr B' => ∃ t : List UInt8, t.length ≤ s.length ∧ trimR t = trimR s ∧ fr 0 = .str t ∧ fr 1 = .ptr β 0 ∧ fr 4 = .str [] ∧ B' = B) (fun fr _ => strLen (fr 0)) ?_ ?_
  · exact ⟨s, by omega, rfl, by (simp (disch := omega) [go_sem, *]) <;> (try omega), by (simp (disch := omega) [go_sem, *]) <;> (try omega), by (simp (disch := omega) [go_sem, *]) <;> (try omega), rfl⟩
  rintro fr B' ⟨t, htl, ht, h0, h1, h4, rfl⟩
  by_cases hp : 0 < t.length
  · obtain ⟨u, c, rfl⟩ : ∃ u c, t = u ++ [c] := ⟨t.dropLast, t.getLast (List.length_pos_iff.1 hp), (List.dropLast_concat_getLast _).symm⟩
    have hul : (u ++ [c]).length = u.length + 1 := by simp
    have hget : ∀ h, (u ++ [c])[u.length]'h = c := fun _ => by simp
    have htk : (u ++ [c]).take u.length = u := by simp
    have hm : strLen (fr 0) = u.length + 1 := by rw [h0, strLen, hul]
    have hcn : ∀ {args : List CV}, Is args [.ptr β 0, byteC c] → ACall Tryz.prog 101 args B' fun r B'' => r = .bool (blank c) ∧ B'' = B' := fun h => contains_at h hB
    rw [trimR_snoc] at ht
    cases hb : blank c with
    | true =>
      rw [hb, if_pos rfl] at ht
      rw [hb] at hcn
      generalize u ++ [c] = t at *
      repeat' (first | (with_reducible first | apply jA | apply jB | apply jC | apply jD | apply jE | apply jF | apply jG | apply jH | apply jI | apply jJ | apply jK | apply jL | apply jM | apply jN | apply jO) | ((with_reducible first | apply jP | apply jQ); rfl) | ((first | ((with_reducible first | apply jR | apply jS | apply jT); rfl; rfl) | (with_reducible first | apply jU | apply jV | apply jW) | ((with_reducible first | apply jX | apply jY | apply jZ); rfl) | ((with_reducible first | apply kA | apply kB | apply kC); rfl)); all_goals (first | ((with_reducible show Is _ _); exact kE) | ((with_reducible refine fun (hc : (_ : Bool) = _) => ?_); (try simp only [xZ, xY, xP, reduceCtorEq] at hc); (try (have hx : True := hc; clear hx hc)); (try exact kX)) | ((with_reducible show ACall _ _ _ _ _); (first | ((with_reducible apply hcn) <;> exact kD))) | ((fail_if_success (with_reducible first | show Is _ _ | show ACall _ _ _ _ _)); (try ((with_reducible show _ ∨ _); exact kT))))))
      refine ⟨⟨u, by omega, ht, by (simp (disch := omega) [go_sem, *]) <;> (try omega), by (simp (disch := omega) [go_sem, *]) <;> (try omega), by (simp (disch := omega) [go_sem, *]) <;> (try omega), rfl⟩, ?_⟩
      rw [hm]
      simp [upd, strLen]
    | false =>
      rw [hb, if_neg (by simp)] at ht
      rw [hb] at hcn
      generalize u ++ [c] = t at *
      subst ht
      repeat' (first | (with_reducible first | apply jA | apply jB | apply jC | apply jD | apply jE | apply jF | apply jG | apply jH | apply jI | apply jJ | apply jK | apply jL | apply jM | apply jN | apply jO) | ((with_reducible first | apply jP | apply jQ); rfl) | ((first | ((with_reducible first | apply jR | apply jS | apply jT); rfl; rfl) | (with_reducible first | apply jU | apply jV | apply jW) | ((with_reducible first | apply jX | apply jY | apply jZ); rfl) | ((with_reducible first | apply kA | apply kB | apply kC); rfl)); all_goals (first | ((with_reducible show Is _ _); exact kE) | ((with_reducible refine fun (hc : (_ : Bool) = _) => ?_); (try simp only [xZ, xY, xP, reduceCtorEq] at hc); (try (have hx : True := hc; clear hx hc)); (try exact kX)) | ((with_reducible show ACall _ _ _ _ _); (first | ((with_reducible apply hcn) <;> exact kD))) | ((fail_if_success (with_reducible first | show Is _ _ | show ACall _ _ _ _ _)); (try ((with_reducible show _ ∨ _); exact kT))))))
      exact ⟨rfl, rfl⟩
  · have : t = [] := List.eq_nil_of_length_eq_zero (by omega)
    subst this
    repeat' (first | (with_reducible first | apply jA | apply jB | apply jC | apply jD | apply jE | apply jF | apply jG | apply jH | apply jI | apply jJ | apply jK | apply jL | apply jM | apply jN | apply jO) | ((with_reducible first | apply jP | apply jQ); rfl) | ((first | ((with_reducible first | apply jR | apply jS | apply jT); rfl; rfl) | (with_reducible first | apply jU | apply jV | apply jW) | ((with_reducible first | apply jX | apply jY | apply jZ); rfl)); all_goals (first | ((with_reducible show Is _ _); exact kE) | ((with_reducible refine fun (hc : (_ : Bool) = _) => ?_); (try simp only [xZ, xY, xP, reduceCtorEq] at hc); (try (have hx : True := hc; clear hx hc)); (try exact kX)) | ((fail_if_success (with_reducible first | show Is _ _ | show ACall _ _ _ _ _)); (try ((with_reducible show _ ∨ _); exact kT))))))
    exact ⟨by rw [← ht]; rfl, rfl⟩
theorem trimLeft_at {B : List Box} {β : Nat} {args : List CV} {s : List UInt8} (ha : Is args [.str s, .ptr β 0]) (hs : s.length < 4611686018427387904) (hB : B[β]? = some ⟨setS.map CV.bool, false⟩) : ACall Tryz.prog 80 args B fun r B' => r = .str (trimLs s) ∧ B' = B := by
  have ha : args = _ := ha
  subst ha
  refine acall_intro mixed Tryz.func80 rfl ca80 (by kernel_rfl) (by rw [Tryz.ntmps80]; simp) ?_
  repeat' (first | (with_reducible first | apply jA | apply jB | apply jC | apply jD | apply jE | apply jF | apply jG | apply jH | apply jI | apply jJ | apply jK | apply jL | apply jM | apply jN | apply jO) | ((with_reducible first | apply jP | apply jQ); rfl) | ((first | ((with_reducible first | apply jR | apply jS | apply jT); rfl; rfl) | (with_reducible first | apply jU | apply jV | apply jW) | ((with_reducible first | apply jX | apply jY | apply jZ); rfl)); all_goals (first | ((with_reducible show Is _ _); exact kE) | ((with_reducible refine fun (hc : (_ : Bool) = _) => ?_); (try simp only [xZ, xY, xP, reduceCtorEq] at hc); (try (have hx : True := hc; clear hx hc)); (try exact kX)) | ((fail_if_success (with_reducible first | show Is _ _ | show ACall _ _ _ _ _)); (try ((with_reducible show _ ∨ _); exact kT))))))
  refine w_loop (fun fr B' => ∃ t : List UInt8, t.length ≤ s.length ∧ trimLs t = trimLs s ∧ fr 0 = .str t ∧ fr 1 = .ptr β 0 ∧ fr 4 = .str [] ∧ B' = B) (fun fr _ => strLen (fr 0)) ?_ ?_
  · exact ⟨s, by omega, rfl, by (simp (disch := omega) [go_sem, *]) <;> (try omega), by (simp (disch := omega) [go_sem, *]) <;> (try omega), by (simp (disch := omega) [go_sem, *]) <;> (try omega), rfl⟩
  rintro fr B' ⟨t, htl, ht, h0, h1, h4, rfl⟩
  cases t with
  | cons c u =>
    have hul : (c :: u).length = u.length + 1 := rfl
    have hm : strLen (fr 0) = u.length + 1 := by rw [h0, strLen, hul]
    have hcn : ∀ {args : List CV}, Is args [.ptr β 0, byteC c] → ACall Tryz.prog 101 args B' fun r B'' => r = .bool (blank c) ∧ B'' = B' := fun h => contains_at h hB
    rw [trimL_cons] at ht
    have htk : u.take (u.length + 1 - 1) = u := List.take_of_length_le (by omega)
    cases hb : blank c with
    | true =>
      rw [hb, if_pos rfl] at ht
      rw [hb] at hcn
      repeat' (first | (with_reducible first | apply jA | apply jB | apply jC | apply jD | apply jE | apply jF | apply jG | apply jH | apply jI | apply jJ | apply jK | apply jL | apply jM | apply jN | apply jO) | ((with_reducible first | apply jP | apply jQ); rfl) | ((first | ((with_reducible first | apply jR | apply jS | apply jT); rfl; rfl) | (with_reducible first | apply jU | apply jV | apply jW) | ((with_reducible first | apply jX | apply jY | apply jZ); rfl) | ((with_reducible first | apply kA | apply kB | apply kC); rfl)); all_goals (first | ((with_reducible show Is _ _); exact kE) | ((with_reducible refine fun (hc : (_ : Bool) = _) => ?_); (try simp only [xZ, xY, xP, reduceCtorEq] at hc); (try (have hx : True := hc; clear hx hc)); (try exact kX)) | ((with_reducible show ACall _ _ _ _ _); (first | ((with_reducible apply hcn) <;> exact kD))) | ((fail_if_success (with_reducible first | show Is _ _ | show ACall _ _ _ _ _)); (try ((with_reducible show _ ∨ _); exact kT))))))
      refine ⟨⟨u, by omega, ht, by (simp (disch := omega) [go_sem, *]) <;> (try omega), by (simp (disch := omega) [go_sem, *]) <;> (try omega), by (simp (disch := omega) [go_sem, *]) <;> (try omega), rfl⟩, ?_⟩
      rw [hm]
      simp [upd, strLen]
    | false =>
      rw [hb, if_neg (by simp)] at ht
      rw [hb] at hcn
      rw [← ht]
      clear ht
      repeat' (first | (with_reducible first | apply jA | apply jB | apply jC | apply jD | apply jE | apply jF | apply jG | apply jH | apply jI | apply jJ | apply jK | apply jL | apply jM | apply jN | apply jO) | ((with_reducible first | apply jP | apply jQ); rfl) | ((first | ((with_reducible first | apply jR | apply jS | apply jT); rfl; rfl) | (with_reducible first | apply jU | apply jV | apply jW) | ((with_reducible first | apply jX | apply jY | apply jZ); rfl) | ((with_reducible first | apply kA | apply kB | apply kC); rfl)); all_goals (first | ((with_reducible show Is _ _); exact kE) | ((with_reducible refine fun (hc : (_ : Bool) = _) => ?_); (try simp only [xZ, xY, xP, reduceCtorEq] at hc); (try (have hx : True := hc; clear hx hc)); (try exact kX)) | ((with_reducible show ACall _ _ _ _ _); (first | ((with_reducible apply hcn) <;> exact kD))) | ((fail_if_success (with_reducible first | show Is _ _ | show ACall _ _ _ _ _)); (try ((with_reducible show _ ∨ _); exact kT))))))
      exact ⟨rfl, rfl⟩
  | nil =>
    repeat' (first | (with_reducible first | apply jA | apply jB | apply jC | apply jD | apply jE | apply jF | apply jG | apply jH | apply jI | apply jJ | apply jK | apply jL | apply jM | apply jN | apply jO) | ((with_reducible first | apply jP | apply jQ); rfl) | ((first | ((with_reducible first | apply jR | apply jS | apply jT); rfl; rfl) | (with_reducible first | apply jU | apply jV | apply jW) | ((with_reducible first | apply jX | apply jY | apply jZ); rfl)); all_goals (first | ((with_reducible show Is _ _); exact kE) | ((with_reducible refine fun (hc : (_ : Bool) = _) => ?_); (try simp only [xZ, xY, xP, reduceCtorEq] at hc); (try (have hx : True := hc; clear hx hc)); (try exact kX)) | ((fail_if_success (with_reducible first | show Is _ _ | show ACall _ _ _ _ _)); (try ((with_reducible show _ ∨ _); exact kT))))))
    exact ⟨by rw [← ht]; rfl, rfl⟩
theorem trimR_le (s : List UInt8) : (trimR s).length ≤ s.length := by
  rw [trimR, List.length_reverse]
  have := (List.dropWhile_sublist (p := blank) (l := s.reverse)).length_le
  simpa using this
theorem trimL_le (s : List UInt8) : (trimLs s).length ≤ s.length := (List.dropWhile_sublist _).length_le
theorem trimT_le (s : List UInt8) : (trimT s).length ≤ s.length := Nat.le_trans (trimL_le _) (trimR_le _)
theorem trim_in (s : List UInt8) (hs : s.length < 4611686018427387904) : PC Tryz.prog true 56 [.str s, .str [32, 9]] (.str (trimT s)) := by
  have hr := trimR_le s
  have l2 : (setS.map CV.bool).length = 256 := by simp [setS]
  have has : ∀ {B : List Box} {args : List CV}, Is args [.str [32, 9]] → ACall Tryz.prog 79 args B fun c B' => c = .tup [.agg (setS.map CV.bool), .bool true] ∧ B' = B ++ [⟨setS.map CV.bool, false⟩] := ascii_at
  have htr : ∀ {B : List Box} {β : Nat} {args : List CV}, Is args [.str s, .ptr β 0] → B[β]? = some ⟨setS.map CV.bool, false⟩ → ACall Tryz.prog 81 args B fun r B' => r = .str (trimR s) ∧ B' = B := fun h h2 => trimRight_at h hs h2
  have htl : ∀ {B : List Box} {β : Nat} {args : List CV}, Is args [.str (trimR s), .ptr β 0] → B[β]? = some ⟨setS.map CV.bool, false⟩ → ACall Tryz.prog 80 args B fun r B' => r = .str (trimLs (trimR s)) ∧ B' = B := fun h h2 => trimLeft_at h (by omega) h2
  by_cases h0 : s = []
  · subst h0
    refine acall_intro mixed Tryz.func56 rfl ca56 (by kernel_rfl) (by rw [Tryz.ntmps56]; simp) ?_
    repeat' (first | (with_reducible first | apply jA | apply jB | apply jC | apply jD | apply jE | apply jF | apply jG | apply jH | apply jI | apply jJ | apply jK | apply jL | apply jM | apply jN | apply jO) | ((with_reducible first | apply jP | apply jQ); rfl) | ((first | ((with_reducible first | apply jR | apply jS | apply jT); rfl; rfl) | (with_reducible first | apply jU | apply jV | apply jW) | ((with_reducible first | apply jX | apply jY | apply jZ); rfl)); all_goals (first | ((with_reducible show Is _ _); exact kE) | ((with_reducible refine fun (hc : (_ : Bool) = _) => ?_); (try simp only [xZ, xY, xP, reduceCtorEq] at hc); (try (have hx : True := hc; clear hx hc)); (try exact kX)) | ((fail_if_success (with_reducible first | show Is _ _ | show ACall _ _ _ _ _)); (try ((with_reducible show _ ∨ _); exact kT))))))
    rfl
  have hse : (s == []) = false := by simpa using h0
  rw [trimT]
  generalize trimLs (trimR s) = v at *
  generalize trimR s = u at *
  generalize setS.map CV.bool = X at *
  refine acall_intro mixed Tryz.func56 rfl ca56 (by kernel_rfl) (by rw [Tryz.ntmps56]; simp) ?_
  repeat' (first | (with_reducible first | apply jA | apply jB | apply jC | apply jD | apply jE | apply jF | apply jG | apply jH | apply jI | apply jJ | apply jK | apply jL | apply jM | apply jN | apply jO) | ((with_reducible first | apply jP | apply jQ); rfl) | ((first | ((with_reducible first | apply jR | apply jS | apply jT); rfl; rfl) | (with_reducible first | apply jU | apply jV | apply jW) | ((with_reducible first | apply jX | apply jY | apply jZ); rfl) | ((with_reducible first | apply kA | apply kB | apply kC); rfl)); all_goals (first | ((with_reducible show Is _ _); exact kE_ZA0) | ((with_reducible refine fun (hc : (_ : Bool) = _) => ?_); (try simp only [xZ, xY, xP, reduceCtorEq] at hc); (try (have hx : True := hc; clear hx hc)); (try exact kX)) | ((with_reducible show ACall _ _ _ _ _); (first | ((with_reducible apply has) <;> exact kD_ZA0) | ((with_reducible apply htr) <;> exact kD_ZA0) | ((with_reducible apply htl) <;> exact kD_ZA0))) | ((fail_if_success (with_reducible first | show Is _ _ | show ACall _ _ _ _ _)); (try ((with_reducible show _ ∨ _); exact kT))))))
  rfl
theorem trim_at {B : List Box} {args : List CV} {s : List UInt8} (hz : Is (omap (Go.Sy.fz true false B 6) args) (some [.str s, .str [32, 9]])) (hs : s.length < 4611686018427387904) : ACall Tryz.prog 56 args B fun r B' => r = .str (trimT s) ∧ B' = B := acall_fresh hz (trim_in s hs)
end Go.Proofs.YtdceppjoipoohaaGreatDoor
end
section
namespace Go.Proofs.YtdceppjoipoohaaGreatDoor
open Go Go.Sy
set_option linter.all false
set_option maxRecDepth 100000
set_option maxHeartbeats 4000000
theorem kE_YCT0 {α : Type} {x y : α} (h : Is x y := by first | ((try simp (disch := first | omega | (simp only [yZ, yB] <;> omega) | fail) [go_sem, yY, *, and1_u8, or_even, if_pos, if_neg, -List.map_take, -List.map_drop, -List.map_append, -List.map_reverse]); exact rfl) | fail) : Is x y := h
theorem kE_YCT1 {α : Type} {x y : α} (h : Is x y := by first | ((try simp (disch := first | omega | (simp only [yZ, yB] <;> omega) | fail) [go_sem, yY, *, hix, if_pos, if_neg, -List.map_take, -List.map_drop, -List.map_append, -List.map_reverse]); exact rfl) | fail) : Is x y := h
def bitAt (k : List UInt8) (j : Nat) : Nat := (k.getD (j / 8) 0).toNat / 2 ^ (7 - j % 8) % 2
def sixP (k : List UInt8) (i : Nat) : Nat → Nat
  | 0 => 0
  | n + 1 => 2 * sixP k i n + bitAt k (6 * i + n)
theorem bitAt_lt (k : List UInt8) (j : Nat) : bitAt k j < 2 := Nat.mod_lt _ (by omega)
theorem sixP_lt (k : List UInt8) (i n : Nat) : sixP k i n < 2 ^ n := by
  induction n with
  | zero => simp [sixP]
  | succ n ih => have := bitAt_lt k (6 * i + n); simp only [sixP, Nat.pow_succ]; omega
def marks : List UInt8 := [65, 66, 67, 68, 69, 70, 71, 72, 73, 74, 75, 76, 77, 78, 79, 80, 81, 82, 83, 84, 85, 86, 87, 88, 89, 90, 97, 98, 99, 100, 101, 102, 103, 104, 105, 106, 107, 108, 109, 110, 111, 112, 113, 114, 115, 116, 117, 118, 119, 120, 121, 122, 48, 49, 50, 51, 52, 53, 54, 55, 56, 57, 43, 47]
def mk64 (n : Nat) : UInt8 := marks.getD n 0
theorem marks_len : marks.length = 64 := rfl
theorem marks_get (k : Nat) (h : k < 64) : marks[k]? = some (mk64 k) := by
  rw [mk64, List.getD_eq_getElem?_getD, List.getElem?_eq_getElem (by rw [marks_len]; exact h), Option.getD_some]
theorem marks_ix {k : Nat} (h : k < 64) (h' : k < marks.length) : marks[k]'h' = mk64 k := by
  have := marks_get k h
  rw [List.getElem?_eq_getElem h'] at this
  exact Option.some.inj this
def textP (k : List UInt8) (n : Nat) : List UInt8 := (List.range n).map fun i => mk64 (sixP k i 6)
def textS (k : List UInt8) : List UInt8 := textP k 43 ++ [61]
theorem textP_succ (k : List UInt8) (n : Nat) : textP k (n + 1) = textP k n ++ [mk64 (sixP k n 6)] := by simp [textP, List.range_succ]
theorem textP_len (k : List UInt8) (n : Nat) : (textP k n).length = n := by simp [textP]
theorem text_in (k : List UInt8) (hk : k.length = 32) : PC Tryz.prog true 26 [.agg (k.map byteC)] (.str (textS k)) := by
  refine acall_intro mixed Tryz.func26 rfl ca26 (by kernel_rfl) (by rw [Tryz.ntmps26]; simp) ?_
  repeat' (first | (with_reducible first | apply jA | apply jB | apply jC | apply jD | apply jE | apply jF | apply jG | apply jH | apply jI | apply jJ | apply jK | apply jL | apply jM | apply jN | apply jO) | ((with_reducible first | apply jP | apply jQ); rfl) | ((first | ((with_reducible first | apply jR | apply jS | apply jT); rfl; rfl) | (with_reducible first | apply jU | apply jV | apply jW) | ((with_reducible first | apply jX | apply jY | apply jZ); rfl)); all_goals (first | ((with_reducible show Is _ _); exact kE) | ((with_reducible refine fun (hc : (_ : Bool) = _) => ?_); (try simp only [xZ, xY, xP, reduceCtorEq] at hc); (try (have hx : True := hc; clear hx hc)); (try exact kX)) | ((fail_if_success (with_reducible first | show Is _ _ | show ACall _ _ _ _ _)); (try ((with_reducible show _ ∨ _); exact kT))))))
  refine w_loop (fun fr B => ∃ i : Nat, i ≤ 43 ∧ fr 8 = .int .i64 i ∧ fr 1 = .ptr 0 0 ∧ GrowB [⟨k.map byteC, false⟩] (fr 3) B (textP k i)) (fun fr _ => 43 - natOf (fr 8)) ?_ ?_
  · exact ⟨0, by omega, by (simp (disch := omega) [go_sem, *]) <;> (try omega), by (simp (disch := omega) [go_sem, *]) <;> (try omega), by (simp (disch := omega) [go_sem, *]) <;> (try omega); exact .nil _ _⟩
  · rintro fr B ⟨i, hi, h8, h1, h⟩
    obtain ⟨c3, h3⟩ : ∃ c, fr 3 = c := ⟨_, rfl⟩
    rw [h3] at h
    have hb := h.old (b := 0) rfl
    by_cases hc : i < 43
    · repeat' (first | (with_reducible first | apply jA | apply jB | apply jC | apply jD | apply jE | apply jF | apply jG | apply jH | apply jI | apply jJ | apply jK | apply jL | apply jM | apply jN | apply jO) | ((with_reducible first | apply jP | apply jQ); rfl) | ((first | ((with_reducible first | apply jR | apply jS | apply jT); rfl; rfl) | (with_reducible first | apply jU | apply jV | apply jW) | ((with_reducible first | apply jX | apply jY | apply jZ); rfl)); all_goals (first | ((with_reducible show Is _ _); exact kE) | ((with_reducible refine fun (hc : (_ : Bool) = _) => ?_); (try simp only [xZ, xY, xP, reduceCtorEq] at hc); (try (have hx : True := hc; clear hx hc)); (try exact kX)) | ((fail_if_success (with_reducible first | show Is _ _ | show ACall _ _ _ _ _)); (try ((with_reducible show _ ∨ _); exact kT))))))
      refine w_loop (fun fr B1 => ∃ j : Nat, j ≤ 6 ∧ fr 11 = .int .i64 j ∧ fr 5 = .int .i64 (sixP k i j) ∧ fr 4 = .int .i64 i ∧ fr 8 = .int .i64 i ∧ fr 3 = c3 ∧ fr 1 = .ptr 0 0 ∧ B1 = B) (fun fr _ => 6 - natOf (fr 11)) ?_ ?_
      · exact ⟨0, by omega, by (simp (disch := omega) [go_sem, *]) <;> (try omega), by (simp (disch := omega) [go_sem, sixP]) <;> (try omega), by (simp (disch := omega) [go_sem, *]) <;> (try omega), by (simp (disch := omega) [go_sem, *]) <;> (try omega), by (simp (disch := omega) [go_sem, *]) <;> (try omega), by (simp (disch := omega) [go_sem, *]) <;> (try omega), rfl⟩
      · have hn : natOf (fr 8) = i := by rw [h8]; simp [natOf]
        clear h8 h3 h1
        rintro fr B1 ⟨j, hj, h11, h5, h4, h8, h3, h1, rfl⟩
        by_cases hj6 : j < 6
        · have hlt : sixP k i j < 64 := Nat.lt_of_lt_of_le (sixP_lt k i j) (Nat.pow_le_pow_right (by omega) (show j ≤ 6 by omega))
          obtain ⟨q, r, hq, hr, hr8, hqr⟩ : ∃ q r : Nat, (6 * (i : Int) + (j : Int)) / 8 = q ∧ (6 * (i : Int) + (j : Int)) % 8 = 7 - (r : Int) ∧ r ≤ 7 ∧ 6 * i + j = 8 * q + (7 - r) := ⟨(6 * i + j) / 8, 7 - (6 * i + j) % 8, by omega, by omega, by omega, by omega⟩
          have e7 : 7 - (7 - (r : Int)) = r := by omega
          have hbit : bitAt k (6 * i + j) = (k.getD q 0).toNat / 2 ^ r % 2 := by rw [bitAt, show (6 * i + j) / 8 = q by omega, show 7 - (6 * i + j) % 8 = r by omega]
          have hbl := bitAt_lt k (6 * i + j)
          have hdl : (k.getD q 0).toNat / 2 ^ r < 256 := Nat.lt_of_le_of_lt (Nat.div_le_self _ _) (UInt8.toNat_lt _)
          have hsix : sixP k i (j + 1) = 2 * sixP k i j + bitAt k (6 * i + j) := rfl
          rw [hbit] at hsix hbl
          have hkq : q < k.length → (k.getD q 0) = k.getD q 0 := fun _ => rfl
          by_cases hin : 6 * i + j < 256
          · rw [List.getD_eq_getElem?_getD, List.getElem?_eq_getElem (show q < k.length by omega), Option.getD_some] at hsix hbl hdl
            clear hbit hkq
            have hd := div_pow_lt (n := k[q].toNat) r (b := 256) (by have := k[q].toNat_lt; omega)
            repeat' (first | (with_reducible first | apply jA | apply jB | apply jC | apply jD | apply jE | apply jF | apply jG | apply jH | apply jI | apply jJ | apply jK | apply jL | apply jM | apply jN | apply jO) | ((with_reducible first | apply jP | apply jQ); rfl) | ((first | ((with_reducible first | apply jR | apply jS | apply jT); rfl; rfl) | (with_reducible first | apply jU | apply jV | apply jW) | ((with_reducible first | apply jX | apply jY | apply jZ); rfl)); all_goals (first | ((with_reducible show Is _ _); exact kE_YCT0) | ((with_reducible refine fun (hc : (_ : Bool) = _) => ?_); (try simp only [xZ, xY, xP, reduceCtorEq] at hc); (try (have hx : True := hc; clear hx hc)); (try exact kX)) | ((fail_if_success (with_reducible first | show Is _ _ | show ACall _ _ _ _ _)); (try ((with_reducible show _ ∨ _); exact kT))))))
            refine ⟨⟨j + 1, by omega, ?_, ?_, ?_, ?_, ?_, ?_, rfl⟩, ?_⟩ <;> (simp (disch := omega) [go_sem, *]) <;> (try omega)
          · have h0 : (k.getD q 0).toNat = 0 := by rw [List.getD_eq_getElem?_getD, List.getElem?_eq_none (by omega)]; rfl
            rw [h0, Nat.zero_div, Nat.zero_mod, Nat.add_zero] at hsix
            clear hbit hkq hbl hdl h0
            repeat' (first | (with_reducible first | apply jA | apply jB | apply jC | apply jD | apply jE | apply jF | apply jG | apply jH | apply jI | apply jJ | apply jK | apply jL | apply jM | apply jN | apply jO) | ((with_reducible first | apply jP | apply jQ); rfl) | ((first | ((with_reducible first | apply jR | apply jS | apply jT); rfl; rfl) | (with_reducible first | apply jU | apply jV | apply jW) | ((with_reducible first | apply jX | apply jY | apply jZ); rfl)); all_goals (first | ((with_reducible show Is _ _); exact kE) | ((with_reducible refine fun (hc : (_ : Bool) = _) => ?_); (try simp only [xZ, xY, xP, reduceCtorEq] at hc); (try (have hx : True := hc; clear hx hc)); (try exact kX)) | ((fail_if_success (with_reducible first | show Is _ _ | show ACall _ _ _ _ _)); (try ((with_reducible show _ ∨ _); exact kT))))))
            refine ⟨⟨j + 1, by omega, ?_, ?_, ?_, ?_, ?_, ?_, rfl⟩, ?_⟩ <;> (simp (disch := omega) [go_sem, *]) <;> (try omega)
        · have hj' : j = 6 := by omega
          subst hj'
          have hlt := sixP_lt k i 6
          have hl := textP_len k i
          have hts := textP_succ k i
          generalize sixP k i 6 = v at *
          obtain ⟨c', B', happ, hg⟩ := h.app (P := Tryz.prog) (e := 5) (.lst 1 [byteC (mk64 v)] true) [mk64 v] rfl (by kernel_rfl) (by simp only [List.length_cons, List.length_nil]; omega)
          rw [← hts] at hg
          clear hts
          have hix := fun h' => marks_ix (k := v) (by omega) h'
          rw [marks] at hix
          repeat' (first | (with_reducible first | apply jA | apply jB | apply jC | apply jD | apply jE | apply jF | apply jG | apply jH | apply jI | apply jJ | apply jK | apply jL | apply jM | apply jN | apply jO) | ((with_reducible first | apply jP | apply jQ); rfl) | ((first | ((with_reducible first | apply jR | apply jS | apply jT); rfl; rfl) | (with_reducible first | apply jU | apply jV | apply jW) | ((with_reducible first | apply jX | apply jY | apply jZ); rfl)); all_goals (first | ((with_reducible show Is _ _); exact kE_YCT1) | ((with_reducible refine fun (hc : (_ : Bool) = _) => ?_); (try simp only [xZ, xY, xP, reduceCtorEq] at hc); (try (have hx : True := hc; clear hx hc)); (try exact kX)) | ((fail_if_success (with_reducible first | show Is _ _ | show ACall _ _ _ _ _)); (try ((with_reducible show _ ∨ _); exact kT))))))
          clear hix
          refine ⟨⟨i + 1, by omega, ?_, ?_, ?_⟩, ?_⟩ <;> (simp (disch := omega) [go_sem, *]) <;> (try omega)
    · have hi' : i = 43 := by omega
      subst hi'
      have hl := textP_len k 43
      obtain ⟨c', B', happ, hg⟩ := h.app (P := Tryz.prog) (e := 5) (.lst 1 [.int .u8 61] true) [61] rfl (by kernel_rfl) (by simp only [List.length_cons, List.length_nil]; omega)
      have hl2 : (textS k).length = 44 := by rw [textS, List.length_append, hl]; rfl
      rw [← textS] at hg
      obtain ⟨m, rfl, rfl⟩ := hg.view (by omega)
      generalize textS k = l at *
      repeat' (first | (with_reducible first | apply jA | apply jB | apply jC | apply jD | apply jE | apply jF | apply jG | apply jH | apply jI | apply jJ | apply jK | apply jL | apply jM | apply jN | apply jO) | ((with_reducible first | apply jP | apply jQ); rfl) | ((first | ((with_reducible first | apply jR | apply jS | apply jT); rfl; rfl) | (with_reducible first | apply jU | apply jV | apply jW) | ((with_reducible first | apply jX | apply jY | apply jZ); rfl)); all_goals (first | ((with_reducible show Is _ _); exact kE) | ((with_reducible refine fun (hc : (_ : Bool) = _) => ?_); (try simp only [xZ, xY, xP, reduceCtorEq] at hc); (try (have hx : True := hc; clear hx hc)); (try exact kX)) | ((fail_if_success (with_reducible first | show Is _ _ | show ACall _ _ _ _ _)); (try ((with_reducible show _ ∨ _); exact kT))))))
      all_goals rfl
end Go.Proofs.YtdceppjoipoohaaGreatDoor
end
section
namespace Go.Proofs.YtdceppjoipoohaaGreatDoor
open Go Go.Sy
set_option linter.all false
set_option maxRecDepth 100000
set_option maxHeartbeats 4000000
theorem kE_YCK0 {α : Type} {x y : α} (h : Is x y := by first | ((try simp (disch := first | omega | (simp only [yZ, yB] <;> omega) | fail) [go_sem, yY, h5, h0, hix, if_pos, if_neg, -List.map_take, -List.map_drop, -List.map_append, -List.map_reverse]); exact rfl) | fail) : Is x y := h
theorem kE_YCK1 {α : Type} {x y : α} (h : Is x y := by first | ((try simp (disch := first | omega | (simp only [yZ, yB] <;> omega) | fail) [go_sem, yY, h5, h0, if_pos, if_neg, -List.map_take, -List.map_drop, -List.map_append, -List.map_reverse]); exact rfl) | fail) : Is x y := h
def valV (c : UInt8) : Option Nat := marks.findIdx? (· == c)
theorem valV_some {c : UInt8} {j : Nat} (h : j < 64) (he : mk64 j = c) (hn : ∀ i, i < j → mk64 i ≠ c) : valV c = some j := by
  rw [valV, List.findIdx?_eq_some_iff_getElem]
  refine ⟨by rw [marks_len]; exact h, by rw [marks_ix h]; simpa using he, fun i hi => ?_⟩
  rw [marks_ix (by omega)]; simpa using hn i hi
theorem valV_none {c : UInt8} (hn : ∀ i, i < 64 → mk64 i ≠ c) : valV c = none := by
  rw [valV, List.findIdx?_eq_none_iff]
  intro x hx
  obtain ⟨i, hi, rfl⟩ := List.getElem_of_mem hx
  rw [marks_len] at hi
  rw [marks_ix hi]; simpa using hn i hi
theorem valV_lt {c : UInt8} {j : Nat} (h : valV c = some j) : j < 64 := by
  rw [valV, List.findIdx?_eq_some_iff_getElem] at h
  obtain ⟨h, _⟩ := h; rwa [marks_len] at h
def markC (o : Option Nat) : CV := .tup [.int .i64 ((o.getD 0 : Nat) : Int), .bool o.isSome]
theorem mark_in (c : UInt8) : PC Tryz.prog true 118 [byteC c] (markC (valV c)) := by
  refine acall_intro mixed Tryz.func118 rfl ca118 (by kernel_rfl) (by rw [Tryz.ntmps118]; simp) ?_
  repeat' (first | (with_reducible first | apply jA | apply jB | apply jC | apply jD | apply jE | apply jF | apply jG | apply jH | apply jI | apply jJ | apply jK | apply jL | apply jM | apply jN | apply jO) | ((with_reducible first | apply jP | apply jQ); rfl) | ((first | ((with_reducible first | apply jR | apply jS | apply jT); rfl; rfl) | (with_reducible first | apply jU | apply jV | apply jW) | ((with_reducible first | apply jX | apply jY | apply jZ); rfl)); all_goals (first | ((with_reducible show Is _ _); exact kE) | ((with_reducible refine fun (hc : (_ : Bool) = _) => ?_); (try simp only [xZ, xY, xP, reduceCtorEq] at hc); (try (have hx : True := hc; clear hx hc)); (try exact kX)) | ((fail_if_success (with_reducible first | show Is _ _ | show ACall _ _ _ _ _)); (try ((with_reducible show _ ∨ _); exact kT))))))
  refine w_loop (fun fr B => ∃ j : Nat, j ≤ 64 ∧ fr 5 = .int .i64 j ∧ fr 0 = byteC c ∧ ∀ i, i < j → mk64 i ≠ c) (fun fr _ => 64 - natOf (fr 5)) ?_ ?_
  · exact ⟨0, by omega, by (simp (disch := omega) [go_sem, *]) <;> (try omega), by (simp (disch := omega) [go_sem, *]) <;> (try omega), by omega⟩
  · rintro fr B ⟨j, hj, h5, h0, hn⟩
    by_cases hc : j < 64
    · have hix := fun h' => marks_ix (k := j) (by omega) h'
      rw [marks] at hix
      repeat' (first | (with_reducible first | apply jA | apply jB | apply jC | apply jD | apply jE | apply jF | apply jG | apply jH | apply jI | apply jJ | apply jK | apply jL | apply jM | apply jN | apply jO) | ((with_reducible first | apply jP | apply jQ); rfl) | ((first | ((with_reducible first | apply jR | apply jS | apply jT); rfl; rfl) | (with_reducible first | apply jU | apply jV | apply jW) | ((with_reducible first | apply jX | apply jY | apply jZ); rfl)); all_goals (first | ((with_reducible show Is _ _); exact kE_YCK0) | ((with_reducible refine fun (hc : (_ : Bool) = _) => ?_); (try simp only [xZ, xY, xP, reduceCtorEq] at hc); (try (have hx : True := hc; clear hx hc)); (try exact kX)) | ((fail_if_success (with_reducible first | show Is _ _ | show ACall _ _ _ _ _)); (try ((with_reducible show _ ∨ _); exact kT))))))
      · have hv := valV_some (by omega) (byte_eq.1 hc) hn
        simp [go_sem, hv, markC]
      · have hne : mk64 j ≠ c := fun e => hc (byte_eq.2 e)
        refine ⟨⟨j + 1, by omega, ?_, ?_, ?_⟩, ?_⟩
        rotate_left 2
        · intro i hi
          rcases Nat.lt_or_ge i j with h | h
          · exact hn i h
          · rwa [show i = j by omega]
        all_goals (simp (disch := omega) [go_sem, h5, h0]) <;> (try omega)
    · have hv := valV_none fun i hi => hn i (by omega)
      repeat' (first | (with_reducible first | apply jA | apply jB | apply jC | apply jD | apply jE | apply jF | apply jG | apply jH | apply jI | apply jJ | apply jK | apply jL | apply jM | apply jN | apply jO) | ((with_reducible first | apply jP | apply jQ); rfl) | ((first | ((with_reducible first | apply jR | apply jS | apply jT); rfl; rfl) | (with_reducible first | apply jU | apply jV | apply jW) | ((with_reducible first | apply jX | apply jY | apply jZ); rfl)); all_goals (first | ((with_reducible show Is _ _); exact kE_YCK1) | ((with_reducible refine fun (hc : (_ : Bool) = _) => ?_); (try simp only [xZ, xY, xP, reduceCtorEq] at hc); (try (have hx : True := hc; clear hx hc)); (try exact kX)) | ((fail_if_success (with_reducible first | show Is _ _ | show ACall _ _ _ _ _)); (try ((with_reducible show _ ∨ _); exact kT))))))
      simp [go_sem, hv, markC]
end Go.Proofs.YtdceppjoipoohaaGreatDoor
end
section
namespace Go.Proofs.YtdceppjoipoohaaGreatDoor
open Go Go.Sy
set_option linter.all false
set_option maxRecDepth 100000
set_option maxHeartbeats 4000000
theorem kE_YCL0 {α : Type} {x y : α} (h : Is x y := by first | ((try simp (disch := first | omega | (simp only [yZ, yB] <;> omega) | fail) [go_sem, yY, *, markC, if_pos, if_neg, -List.map_take, -List.map_drop, -List.map_append, -List.map_reverse]); exact rfl) | fail) : Is x y := h
theorem kD_YCL0 {p : Prop} (h : p := by (first | omega | assumption | exact rfl | ((simp (disch := first | omega | (simp only [yZ, yB] <;> omega) | fail) [go_sem, yY, *, markC, -List.map_take, -List.map_drop, -List.map_append, -List.map_reverse]) <;> (first | done | omega | exact rfl)) | fail)) : p := h
theorem kE_YCL1 {α : Type} {x y : α} (h : Is x y := by first | ((try simp (disch := first | omega | (simp only [yZ, yB] <;> omega) | fail) [go_sem, yY, *, and1_i64, or_pw, bytes_mid, set_mid, if_pos, if_neg, -List.map_take, -List.map_drop, -List.map_append, -List.map_reverse]); exact rfl) | fail) : Is x y := h
theorem kE_YCL2 {α : Type} {x y : α} (h : Is x y := by first | ((try simp (disch := first | omega | (simp only [yZ, yB] <;> omega) | fail) [go_sem, yY, *, and1_i64, if_pos, if_neg, -List.map_take, -List.map_drop, -List.map_append, -List.map_reverse]); exact rfl) | fail) : Is x y := h
theorem kE_YCL3 {α : Type} {x y : α} (h : Is x y := by first | ((try simp (disch := first | omega | (simp only [yZ, yB] <;> omega) | fail) [go_sem, yY, *, and1_i64, or_zero, int_byte, bytes_mid, set_mid, if_pos, if_neg, -List.map_take, -List.map_drop, -List.map_append, -List.map_reverse]); exact rfl) | fail) : Is x y := h
theorem mark_at {B : List Box} {args : List CV} {c : UInt8} (hz : Is (omap (fz true false B 6) args) (some [byteC c])) : ACall Tryz.prog 118 args B fun r B' => r = markC (valV c) ∧ B' = B := acall_fresh hz (mark_in c)
def fbit (s : List UInt8) (n : Nat) : Nat := (valV (s.getD (n / 6) 0)).getD 0 / 2 ^ (5 - n % 6) % 2
def pw (r : Nat) : UInt8 := UInt8.ofNat (2 ^ r)
def keyP (f : Nat → Nat) : Nat → List UInt8
  | 0 => List.replicate 32 0
  | n + 1 => if n < 256 ∧ f n = 1 then (keyP f n).set (n / 8) ((keyP f n).getD (n / 8) 0 ||| pw (7 - n % 8)) else keyP f n
theorem keyP_len (f : Nat → Nat) (n : Nat) : (keyP f n).length = 32 := by
  induction n with
  | zero => simp [keyP]
  | succ n ih => simp only [keyP]; split <;> simp [ih]
def goodT (s : List UInt8) : Prop := (∀ i, i < 43 → (valV (s.getD i 0)).isSome = true) ∧ fbit s 256 = 0 ∧ fbit s 257 = 0
open Classical in
noncomputable def unkey (s : List UInt8) : Option (List UInt8) := if s.length = 44 ∧ s.getD 43 0 = 61 ∧ goodT s then some (keyP (fbit s) 258) else none
def keyC (o : Option (List UInt8)) : CV := .tup [.agg ((o.getD (List.replicate 32 0)).map byteC), .int .i64 (if o.isSome then 0 else 5)]
theorem pw_toNat {r : Nat} (h : r ≤ 7) : (pw r).toNat = 2 ^ r := by
  have : ∀ r : Fin 8, (pw r.1).toNat = 2 ^ r.1 := by decide
  exact this ⟨r, by omega⟩
theorem or_pw {a : UInt8} {r : Nat} (h : r ≤ 7) : CV.int .u8 (bits .or .u8 (a.toNat : Int) (2 ^ r)) = byteC (a ||| pw r) := by
  rw [byteC, UInt8.toNat_or, pw_toNat h, ← u8_or_nat _ _ a.toNat_lt (Nat.pow_lt_pow_right (by omega) (by omega) : 2 ^ r < 2 ^ 8)]
  simp
theorem or_zero {a : UInt8} : bits .or .u8 (a.toNat : Int) 0 = (a.toNat : Int) := by
  have := u8_or_nat a.toNat 0 a.toNat_lt (by omega)
  simpa using this
theorem set_mid {l : List UInt8} {q : Nat} {x : UInt8} (h : q < l.length) : l.take q ++ x :: l.drop (q + 1) = l.set q x := by rw [List.set_eq_take_append_cons_drop, if_pos h]
theorem set_self {l : List UInt8} {q : Nat} (h : q < l.length) : l.set q l[q] = l := by simp
theorem parseKey_in (s : List UInt8) (hs : s.length < 1073741823) : PC Tryz.prog true 105 [.str s] (keyC (unkey s)) := by
  by_cases h1 : s.length = 44 ∧ s.getD 43 0 = 61
  · obtain ⟨h1, h2⟩ := h1
    rw [List.getD_eq_getElem?_getD, List.getElem?_eq_getElem (by omega), Option.getD_some] at h2
    refine acall_intro mixed Tryz.func105 rfl ca105 (by kernel_rfl) (by rw [Tryz.ntmps105]; simp) ?_
    repeat' (first | (with_reducible first | apply jA | apply jB | apply jC | apply jD | apply jE | apply jF | apply jG | apply jH | apply jI | apply jJ | apply jK | apply jL | apply jM | apply jN | apply jO) | ((with_reducible first | apply jP | apply jQ); rfl) | ((first | ((with_reducible first | apply jR | apply jS | apply jT); rfl; rfl) | (with_reducible first | apply jU | apply jV | apply jW) | ((with_reducible first | apply jX | apply jY | apply jZ); rfl)); all_goals (first | ((with_reducible show Is _ _); exact kE) | ((with_reducible refine fun (hc : (_ : Bool) = _) => ?_); (try simp only [xZ, xY, xP, reduceCtorEq] at hc); (try (have hx : True := hc; clear hx hc)); (try exact kX)) | ((fail_if_success (with_reducible first | show Is _ _ | show ACall _ _ _ _ _)); (try ((with_reducible show _ ∨ _); exact kT))))))
    refine w_loop (fun fr B => ∃ (i : Nat) (Z : List CV), Z.length = 32 ∧ i ≤ 43 ∧ fr 20 = .int .i64 i ∧ fr 0 = .str s ∧ fr 2 = .ptr 0 0 ∧ fr 4 = .ptr 1 0 ∧ B = [⟨Z, false⟩, ⟨(keyP (fbit s) (6 * i)).map byteC, false⟩] ∧
      (∀ k, k < i → (valV (s.getD k 0)).isSome = true) ∧ (∀ n, 256 ≤ n → n < 6 * i → fbit s n = 0)) (fun fr _ => 43 - natOf (fr 20)) ?_ ?_
    · exact ⟨0, _, rfl, by omega, by (simp (disch := omega) [go_sem, *]) <;> (try omega), by (simp (disch := omega) [go_sem, *]) <;> (try omega), by (simp (disch := omega) [go_sem, *]) <;> (try omega), by (simp (disch := omega) [go_sem, *]) <;> (try omega), rfl, by omega, by omega⟩
    · rintro fr B ⟨i, Z, hZ, hi, h20, h0, h2', h4, rfl, hv, hz⟩
      by_cases hc : i < 43
      · cases hx : valV s[i] with
        | none =>
          have hu : unkey s = none := by
            rw [unkey, if_neg]
            rintro ⟨_, _, hg, _⟩
            have := hg i hc
            rw [List.getD_eq_getElem?_getD, List.getElem?_eq_getElem (by omega), Option.getD_some, hx] at this
            cases this
          have hl := keyP_len (fbit s) (6 * i)
          repeat' (first | (with_reducible first | apply jA | apply jB | apply jC | apply jD | apply jE | apply jF | apply jG | apply jH | apply jI | apply jJ | apply jK | apply jL | apply jM | apply jN | apply jO) | ((with_reducible first | apply jP | apply jQ); rfl) | ((first | ((with_reducible first | apply jR | apply jS | apply jT); rfl; rfl) | (with_reducible first | apply jU | apply jV | apply jW) | ((with_reducible first | apply jX | apply jY | apply jZ); rfl) | ((with_reducible first | apply kA | apply kB | apply kC); rfl)); all_goals (first | ((with_reducible show Is _ _); exact kE_YCL0) | ((with_reducible refine fun (hc : (_ : Bool) = _) => ?_); (try simp only [xZ, xY, xP, reduceCtorEq] at hc); (try (have hx : True := hc; clear hx hc)); (try exact kX)) | ((with_reducible show ACall _ _ _ _ _); (first | ((with_reducible apply mark_at) <;> exact kD_YCL0))) | ((fail_if_success (with_reducible first | show Is _ _ | show ACall _ _ _ _ _)); (try ((with_reducible show _ ∨ _); exact kT))))))
          rw [hu]; rfl
        | some v =>
          have hvl := valV_lt hx
          repeat' (first | (with_reducible first | apply jA | apply jB | apply jC | apply jD | apply jE | apply jF | apply jG | apply jH | apply jI | apply jJ | apply jK | apply jL | apply jM | apply jN | apply jO) | ((with_reducible first | apply jP | apply jQ); rfl) | ((first | ((with_reducible first | apply jR | apply jS | apply jT); rfl; rfl) | (with_reducible first | apply jU | apply jV | apply jW) | ((with_reducible first | apply jX | apply jY | apply jZ); rfl) | ((with_reducible first | apply kA | apply kB | apply kC); rfl)); all_goals (first | ((with_reducible show Is _ _); exact kE_YCL0) | ((with_reducible refine fun (hc : (_ : Bool) = _) => ?_); (try simp only [xZ, xY, xP, reduceCtorEq] at hc); (try (have hx : True := hc; clear hx hc)); (try exact kX)) | ((with_reducible show ACall _ _ _ _ _); (first | ((with_reducible apply mark_at) <;> exact kD_YCL0))) | ((fail_if_success (with_reducible first | show Is _ _ | show ACall _ _ _ _ _)); (try ((with_reducible show _ ∨ _); exact kT))))))
          refine w_loop (fun fr B => ∃ (j : Nat), j ≤ 6 ∧ fr 33 = .int .i64 j ∧ fr 5 = .int .i64 i ∧ fr 6 = .int .i64 v ∧ fr 20 = .int .i64 i ∧ fr 0 = .str s ∧ fr 2 = .ptr 0 0 ∧ fr 4 = .ptr 1 0 ∧ B = [⟨Z, false⟩, ⟨(keyP (fbit s) (6 * i + j)).map byteC, false⟩] ∧
            (∀ n, 256 ≤ n → n < 6 * i + j → fbit s n = 0)) (fun fr _ => 6 - natOf (fr 33)) ?_ ?_
          · exact ⟨0, by omega, by (simp (disch := omega) [go_sem, *]) <;> (try omega), by (simp (disch := omega) [go_sem, *]) <;> (try omega), by (simp (disch := omega) [go_sem, *]) <;> (try omega), by (simp (disch := omega) [go_sem, *]) <;> (try omega), by (simp (disch := omega) [go_sem, *]) <;> (try omega), by (simp (disch := omega) [go_sem, *]) <;> (try omega), by (simp (disch := omega) [go_sem, *]) <;> (try omega), rfl, hz⟩
          · have hn : natOf (fr 20) = i := by rw [h20]; simp [natOf]
            clear h20 h0 h2' h4 hz
            rintro fr B ⟨j, hj, h33, h5, h6, h20, h0, h2', h4, rfl, hz⟩
            by_cases hj6 : j < 6
            · obtain ⟨p, hp, hp5⟩ : ∃ p : Nat, 5 - (j : Int) = p ∧ p = 5 - j := ⟨5 - j, by omega, rfl⟩
              obtain ⟨q, r, hq, hr, hr8, e1, e2⟩ : ∃ q r : Nat, (6 * (i : Int) + (j : Int)) / 8 = q ∧ (6 * (i : Int) + (j : Int)) % 8 = 7 - (r : Int) ∧ r ≤ 7 ∧ (6 * i + j) / 8 = q ∧ 7 - (6 * i + j) % 8 = r := ⟨(6 * i + j) / 8, 7 - (6 * i + j) % 8, by omega, by omega, by omega, rfl, rfl⟩
              have e7 : 7 - (7 - (r : Int)) = r := by omega
              have hfb : fbit s (6 * i + j) = v / 2 ^ p % 2 := by
                rw [fbit, show (6 * i + j) / 6 = i by omega, show 5 - (6 * i + j) % 6 = p by omega, List.getD_eq_getElem?_getD, List.getElem?_eq_getElem (by omega), Option.getD_some, hx]; rfl
              have hd := div_pow_lt (n := v) p (b := 64) (by omega)
              have hcast : ((v / 2 ^ p % 2 : Nat) : Int) = (v : Int) / 2 ^ p % 2 := by rw [Int.natCast_emod, Int.natCast_ediv]; simp
              have hl := keyP_len (fbit s) (6 * i + j)
              have hks : keyP (fbit s) (6 * i + (j + 1)) = if 6 * i + j < 256 ∧ fbit s (6 * i + j) = 1 then (keyP (fbit s) (6 * i + j)).set q ((keyP (fbit s) (6 * i + j)).getD q 0 ||| pw r) else keyP (fbit s) (6 * i + j) := by rw [← e1, ← e2]; rfl
              have hz2 : (256 ≤ 6 * i + j → fbit s (6 * i + j) = 0) → ∀ n, 256 ≤ n → n < 6 * i + (j + 1) → fbit s n = 0 := by
                intro h n h1 h2
                rcases Nat.lt_or_ge n (6 * i + j) with h3 | h3
                · exact hz n h1 h3
                · have e : n = 6 * i + j := by omega
                  subst e; exact h h1
              have hu : 256 ≤ 6 * i + j → fbit s (6 * i + j) ≠ 0 → unkey s = none := by
                intro h1 h2
                rw [unkey, if_neg]
                rintro ⟨_, _, _, g1, g2⟩
                rcases (show 6 * i + j = 256 ∨ 6 * i + j = 257 by omega) with e | e <;> rw [e] at h2 <;> contradiction
              clear e1 e2 hz hp5
              by_cases hb : (v : Int) / 2 ^ p % 2 = 1
              · have hf1 : fbit s (6 * i + j) = 1 := by omega
                clear hcast hfb
                by_cases hin : 6 * i + j < 256
                · have hq32 : q < 32 := by omega
                  rw [if_pos ⟨hin, hf1⟩] at hks
                  have hz3 := hz2 (by omega)
                  have hpw : (0 : Int) ≤ 2 ^ r ∧ (2 : Int) ^ r < 256 := ⟨Int.pow_nonneg (by omega), by
                    have : (2 : Nat) ^ r < 2 ^ 8 := Nat.pow_lt_pow_right (by omega) (by omega)
                    have h3 : ((2 ^ r : Nat) : Int) = 2 ^ r := by simp
                    omega⟩
                  clear hu hz2 hf1
                  obtain ⟨K1, hK1⟩ : ∃ K1, keyP (fbit s) (6 * i + (j + 1)) = K1 := ⟨_, rfl⟩
                  rw [hK1] at hks
                  generalize keyP (fbit s) (6 * i + j) = K at *
                  rw [List.getD_eq_getElem?_getD, List.getElem?_eq_getElem (by omega), Option.getD_some] at hks
                  repeat' (first | (with_reducible first | apply jA | apply jB | apply jC | apply jD | apply jE | apply jF | apply jG | apply jH | apply jI | apply jJ | apply jK | apply jL | apply jM | apply jN | apply jO) | ((with_reducible first | apply jP | apply jQ); rfl) | ((first | ((with_reducible first | apply jR | apply jS | apply jT); rfl; rfl) | (with_reducible first | apply jU | apply jV | apply jW) | ((with_reducible first | apply jX | apply jY | apply jZ); rfl)); all_goals (first | ((with_reducible show Is _ _); exact kE_YCL1) | ((with_reducible refine fun (hc : (_ : Bool) = _) => ?_); (try simp only [xZ, xY, xP, reduceCtorEq] at hc); (try (have hx : True := hc; clear hx hc)); (try exact kX)) | ((fail_if_success (with_reducible first | show Is _ _ | show ACall _ _ _ _ _)); (try ((with_reducible show _ ∨ _); exact kT))))))
                  refine ⟨⟨j + 1, by omega, ?_, ?_, ?_, ?_, ?_, ?_, ?_, ?_, hz3⟩, ?_⟩ <;> (simp (disch := omega) [go_sem, *]) <;> (try omega)
                · have := hu (by omega) (by omega)
                  clear hz2 hu hks hf1
                  generalize keyP (fbit s) (6 * i + j) = K at *
                  repeat' (first | (with_reducible first | apply jA | apply jB | apply jC | apply jD | apply jE | apply jF | apply jG | apply jH | apply jI | apply jJ | apply jK | apply jL | apply jM | apply jN | apply jO) | ((with_reducible first | apply jP | apply jQ); rfl) | ((first | ((with_reducible first | apply jR | apply jS | apply jT); rfl; rfl) | (with_reducible first | apply jU | apply jV | apply jW) | ((with_reducible first | apply jX | apply jY | apply jZ); rfl)); all_goals (first | ((with_reducible show Is _ _); exact kE_YCL2) | ((with_reducible refine fun (hc : (_ : Bool) = _) => ?_); (try simp only [xZ, xY, xP, reduceCtorEq] at hc); (try (have hx : True := hc; clear hx hc)); (try exact kX)) | ((fail_if_success (with_reducible first | show Is _ _ | show ACall _ _ _ _ _)); (try ((with_reducible show _ ∨ _); exact kT))))))
                  rw [this]; rfl
              · have hf1 : fbit s (6 * i + j) = 0 := by omega
                have hb0 : (v : Int) / 2 ^ p % 2 = 0 := by omega
                have hz3 := hz2 (by omega)
                rw [if_neg (by omega)] at hks
                clear hcast hfb hu hz2 hf1 hb
                by_cases hin : 6 * i + j < 256
                · have hq32 : q < 32 := by omega
                  obtain ⟨K1, hK1⟩ : ∃ K1, keyP (fbit s) (6 * i + (j + 1)) = K1 := ⟨_, rfl⟩
                  rw [hK1] at hks
                  generalize keyP (fbit s) (6 * i + j) = K at *
                  have hs0 := set_self (l := K) (q := q) (by omega)
                  repeat' (first | (with_reducible first | apply jA | apply jB | apply jC | apply jD | apply jE | apply jF | apply jG | apply jH | apply jI | apply jJ | apply jK | apply jL | apply jM | apply jN | apply jO) | ((with_reducible first | apply jP | apply jQ); rfl) | ((first | ((with_reducible first | apply jR | apply jS | apply jT); rfl; rfl) | (with_reducible first | apply jU | apply jV | apply jW) | ((with_reducible first | apply jX | apply jY | apply jZ); rfl)); all_goals (first | ((with_reducible show Is _ _); exact kE_YCL3) | ((with_reducible refine fun (hc : (_ : Bool) = _) => ?_); (try simp only [xZ, xY, xP, reduceCtorEq] at hc); (try (have hx : True := hc; clear hx hc)); (try exact kX)) | ((fail_if_success (with_reducible first | show Is _ _ | show ACall _ _ _ _ _)); (try ((with_reducible show _ ∨ _); exact kT))))))
                  refine ⟨⟨j + 1, by omega, ?_, ?_, ?_, ?_, ?_, ?_, ?_, ?_, hz3⟩, ?_⟩ <;> (simp (disch := omega) [go_sem, *]) <;> (try omega)
                · obtain ⟨K1, hK1⟩ : ∃ K1, keyP (fbit s) (6 * i + (j + 1)) = K1 := ⟨_, rfl⟩
                  rw [hK1] at hks
                  generalize keyP (fbit s) (6 * i + j) = K at *
                  repeat' (first | (with_reducible first | apply jA | apply jB | apply jC | apply jD | apply jE | apply jF | apply jG | apply jH | apply jI | apply jJ | apply jK | apply jL | apply jM | apply jN | apply jO) | ((with_reducible first | apply jP | apply jQ); rfl) | ((first | ((with_reducible first | apply jR | apply jS | apply jT); rfl; rfl) | (with_reducible first | apply jU | apply jV | apply jW) | ((with_reducible first | apply jX | apply jY | apply jZ); rfl)); all_goals (first | ((with_reducible show Is _ _); exact kE_YCL2) | ((with_reducible refine fun (hc : (_ : Bool) = _) => ?_); (try simp only [xZ, xY, xP, reduceCtorEq] at hc); (try (have hx : True := hc; clear hx hc)); (try exact kX)) | ((fail_if_success (with_reducible first | show Is _ _ | show ACall _ _ _ _ _)); (try ((with_reducible show _ ∨ _); exact kT))))))
                  refine ⟨⟨j + 1, by omega, ?_, ?_, ?_, ?_, ?_, ?_, ?_, ?_, hz3⟩, ?_⟩ <;> (simp (disch := omega) [go_sem, *]) <;> (try omega)
            · have hj' : j = 6 := by omega
              subst hj'
              have hv2 : ∀ k, k < i + 1 → (valV (s.getD k 0)).isSome = true := by
                intro k hk
                rcases Nat.lt_or_ge k i with h | h
                · exact hv k h
                · rw [show k = i by omega, List.getD_eq_getElem?_getD, List.getElem?_eq_getElem (by omega), Option.getD_some, hx]; rfl
              repeat' (first | (with_reducible first | apply jA | apply jB | apply jC | apply jD | apply jE | apply jF | apply jG | apply jH | apply jI | apply jJ | apply jK | apply jL | apply jM | apply jN | apply jO) | ((with_reducible first | apply jP | apply jQ); rfl) | ((first | ((with_reducible first | apply jR | apply jS | apply jT); rfl; rfl) | (with_reducible first | apply jU | apply jV | apply jW) | ((with_reducible first | apply jX | apply jY | apply jZ); rfl)); all_goals (first | ((with_reducible show Is _ _); exact kE) | ((with_reducible refine fun (hc : (_ : Bool) = _) => ?_); (try simp only [xZ, xY, xP, reduceCtorEq] at hc); (try (have hx : True := hc; clear hx hc)); (try exact kX)) | ((fail_if_success (with_reducible first | show Is _ _ | show ACall _ _ _ _ _)); (try ((with_reducible show _ ∨ _); exact kT))))))
              refine ⟨⟨i + 1, Z, hZ, by omega, ?_, ?_, ?_, ?_, ?_, hv2, hz⟩, ?_⟩ <;> (simp (disch := omega) [go_sem, *, Nat.mul_succ]) <;> (try omega)
      · have hi' : i = 43 := by omega
        subst hi'
        have hu : unkey s = some (keyP (fbit s) 258) := by
          rw [unkey, if_pos ⟨h1, by rw [List.getD_eq_getElem?_getD, List.getElem?_eq_getElem (by omega), Option.getD_some]; exact h2, hv, hz 256 (by omega) (by omega), hz 257 (by omega) (by omega)⟩]
        have hl := keyP_len (fbit s) 258
        repeat' (first | (with_reducible first | apply jA | apply jB | apply jC | apply jD | apply jE | apply jF | apply jG | apply jH | apply jI | apply jJ | apply jK | apply jL | apply jM | apply jN | apply jO) | ((with_reducible first | apply jP | apply jQ); rfl) | ((first | ((with_reducible first | apply jR | apply jS | apply jT); rfl; rfl) | (with_reducible first | apply jU | apply jV | apply jW) | ((with_reducible first | apply jX | apply jY | apply jZ); rfl)); all_goals (first | ((with_reducible show Is _ _); exact kE) | ((with_reducible refine fun (hc : (_ : Bool) = _) => ?_); (try simp only [xZ, xY, xP, reduceCtorEq] at hc); (try (have hx : True := hc; clear hx hc)); (try exact kX)) | ((fail_if_success (with_reducible first | show Is _ _ | show ACall _ _ _ _ _)); (try ((with_reducible show _ ∨ _); exact kT))))))
        rw [hu]
        generalize keyP (fbit s) 258 = K at *
        simp [go_sem, keyC]
  · have hu : unkey s = none := by rw [unkey, if_neg (fun h => h1 ⟨h.1, h.2.1⟩)]
    rw [hu]
    by_cases h3 : s.length = 44
    · have h4 : ¬ s[43] = 61 := fun e => h1 ⟨h3, by rw [List.getD_eq_getElem?_getD, List.getElem?_eq_getElem (by omega), Option.getD_some]; exact e⟩
      refine acall_intro mixed Tryz.func105 rfl ca105 (by kernel_rfl) (by rw [Tryz.ntmps105]; simp) ?_
      have h5 : ¬ ((s[43].toNat : Int) = 61) := fun e => h4 (byte_eq.1 e)
      repeat' (first | (with_reducible first | apply jA | apply jB | apply jC | apply jD | apply jE | apply jF | apply jG | apply jH | apply jI | apply jJ | apply jK | apply jL | apply jM | apply jN | apply jO) | ((with_reducible first | apply jP | apply jQ); rfl) | ((first | ((with_reducible first | apply jR | apply jS | apply jT); rfl; rfl) | (with_reducible first | apply jU | apply jV | apply jW) | ((with_reducible first | apply jX | apply jY | apply jZ); rfl)); all_goals (first | ((with_reducible show Is _ _); exact kE) | ((with_reducible refine fun (hc : (_ : Bool) = _) => ?_); (try simp only [xZ, xY, xP, reduceCtorEq] at hc); (try (have hx : True := hc; clear hx hc)); (try exact kX)) | ((fail_if_success (with_reducible first | show Is _ _ | show ACall _ _ _ _ _)); (try ((with_reducible show _ ∨ _); exact kT))))))
      all_goals rfl
    · refine acall_intro mixed Tryz.func105 rfl ca105 (by kernel_rfl) (by rw [Tryz.ntmps105]; simp) ?_
      repeat' (first | (with_reducible first | apply jA | apply jB | apply jC | apply jD | apply jE | apply jF | apply jG | apply jH | apply jI | apply jJ | apply jK | apply jL | apply jM | apply jN | apply jO) | ((with_reducible first | apply jP | apply jQ); rfl) | ((first | ((with_reducible first | apply jR | apply jS | apply jT); rfl; rfl) | (with_reducible first | apply jU | apply jV | apply jW) | ((with_reducible first | apply jX | apply jY | apply jZ); rfl)); all_goals (first | ((with_reducible show Is _ _); exact kE) | ((with_reducible refine fun (hc : (_ : Bool) = _) => ?_); (try simp only [xZ, xY, xP, reduceCtorEq] at hc); (try (have hx : True := hc; clear hx hc)); (try exact kX)) | ((fail_if_success (with_reducible first | show Is _ _ | show ACall _ _ _ _ _)); (try ((with_reducible show _ ∨ _); exact kT))))))
      all_goals rfl
theorem parseKey_at {B : List Box} {s : List UInt8} (hl : s.length < 1073741823) : ACall Tryz.prog 105 [.str s] B fun c B' => c = keyC (unkey s) ∧ B' = B := acall_fresh (nz := true) (by simp [go_sem]) (parseKey_in s hl)
end Go.Proofs.YtdceppjoipoohaaGreatDoor
end
