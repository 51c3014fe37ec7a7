/- Lemmas and definitions of this claim (own texts, joined by a program; what the claim does not use is left out). -/
import Derived.Test.YtdceppjoipoohaaGreatDoorEa4
import Derived.Test.YtdceppjoipoohaaGreatDoorRows
import Derived.KernelRfl
import Derived.Laws.BitsAllLaws
section
namespace Go.Proofs.YtdceppjoipoohaaGreatDoor
open Go Go.Sy
theorem mixed : Fit Tryz.prog := ⟨by kernel_rfl, quietAll⟩
@[go_sem] theorem sz2 : szOf Tryz.prog 2 = some 1 := by kernel_rfl
@[go_sem] theorem ag2 : aggT Tryz.prog 2 = false := by kernel_rfl
@[go_sem] theorem by2 : Tryz.prog.bytesOf 2 = 8 := by kernel_rfl
@[go_sem] theorem un2 : (Tryz.prog.underlying 2).isNone = false := by kernel_rfl
@[go_sem] theorem zo2 : zerosOf Tryz.prog 2 = some [.int .i64 0] := by kernel_rfl
attribute [go_sem] Tryz.underlying2
@[go_sem] theorem eql2 (d : Nat) (k : IntKind) (a b : Int) : eqV Tryz.prog (d + 1) 2 (.int k a) (.int k b) = some (a == b) := eqV_int Tryz.underlying2 d k a b
@[go_sem] theorem sz3 : szOf Tryz.prog 3 = some 1 := by kernel_rfl
@[go_sem] theorem ag3 : aggT Tryz.prog 3 = false := by kernel_rfl
@[go_sem] theorem by3 : Tryz.prog.bytesOf 3 = 8 := by kernel_rfl
@[go_sem] theorem un3 : (Tryz.prog.underlying 3).isNone = false := by kernel_rfl
@[go_sem] theorem zo3 : zerosOf Tryz.prog 3 = some [.int .i64 0] := by kernel_rfl
attribute [go_sem] Tryz.underlying3
@[go_sem] theorem eql3 (d : Nat) (k : IntKind) (a b : Int) : eqV Tryz.prog (d + 1) 3 (.int k a) (.int k b) = some (a == b) := eqV_int Tryz.underlying3 d k a b
@[go_sem] theorem sz4 : szOf Tryz.prog 4 = some 1 := by kernel_rfl
@[go_sem] theorem ag4 : aggT Tryz.prog 4 = false := by kernel_rfl
@[go_sem] theorem by4 : Tryz.prog.bytesOf 4 = 1 := by kernel_rfl
@[go_sem] theorem un4 : (Tryz.prog.underlying 4).isNone = false := by kernel_rfl
@[go_sem] theorem zo4 : zerosOf Tryz.prog 4 = some [.bool false] := by kernel_rfl
attribute [go_sem] Tryz.underlying4
@[go_sem] theorem eql4 (d : Nat) (a b : Bool) : eqV Tryz.prog (d + 1) 4 (.bool a) (.bool b) = some (a == b) := eqV_bool Tryz.underlying4 d a b
@[go_sem] theorem sz5 : szOf Tryz.prog 5 = some 1 := by kernel_rfl
@[go_sem] theorem ag5 : aggT Tryz.prog 5 = false := by kernel_rfl
@[go_sem] theorem by5 : Tryz.prog.bytesOf 5 = 1 := by kernel_rfl
@[go_sem] theorem un5 : (Tryz.prog.underlying 5).isNone = false := by kernel_rfl
@[go_sem] theorem zo5 : zerosOf Tryz.prog 5 = some [.int .u8 0] := by kernel_rfl
attribute [go_sem] Tryz.underlying5
@[go_sem] theorem eql5 (d : Nat) (k : IntKind) (a b : Int) : eqV Tryz.prog (d + 1) 5 (.int k a) (.int k b) = some (a == b) := eqV_int Tryz.underlying5 d k a b
@[go_sem] theorem sz6 : szOf Tryz.prog 6 = some 1 := by kernel_rfl
@[go_sem] theorem ag6 : aggT Tryz.prog 6 = false := by kernel_rfl
@[go_sem] theorem by6 : Tryz.prog.bytesOf 6 = 1 := by kernel_rfl
@[go_sem] theorem un6 : (Tryz.prog.underlying 6).isNone = false := by kernel_rfl
@[go_sem] theorem zo6 : zerosOf Tryz.prog 6 = some [.int .u8 0] := by kernel_rfl
attribute [go_sem] Tryz.underlying6
@[go_sem] theorem eql6 (d : Nat) (k : IntKind) (a b : Int) : eqV Tryz.prog (d + 1) 6 (.int k a) (.int k b) = some (a == b) := eqV_int Tryz.underlying6 d k a b
@[go_sem] theorem sz7 : szOf Tryz.prog 7 = some 4 := by kernel_rfl
@[go_sem] theorem ag7 : aggT Tryz.prog 7 = true := by kernel_rfl
@[go_sem] theorem by7 : Tryz.prog.bytesOf 7 = 24 := by kernel_rfl
@[go_sem] theorem un7 : (Tryz.prog.underlying 7).isNone = false := by kernel_rfl
@[go_sem] theorem zo7 : zerosOf Tryz.prog 7 = some [.int .i64 0, .int .i64 0, .bool false, .int .u8 0] := by kernel_rfl
attribute [go_sem] Tryz.underlying7
@[go_sem] theorem gd7 : Tryz.prog.eqGuardType Tryz.prog.depth 7 = false := by kernel_rfl
@[go_sem] theorem st7 : Tryz.prog.stoodInHeld 7 = false := by kernel_rfl
@[go_sem] theorem eqs7 (d : Nat) (xs ys : List CV) : eqV Tryz.prog (d + 1) 7 (.agg xs) (.agg ys) = eqF Tryz.prog d xs ys (match Tryz.prog.underlying 7 with | some (.struct fs) => fs.toList | _ => []) := by rw [Tryz.underlying7]; exact eqV_struct Tryz.underlying7 st7 d xs ys
@[go_sem] theorem sz8 : szOf Tryz.prog 8 = some 4 := by kernel_rfl
@[go_sem] theorem ag8 : aggT Tryz.prog 8 = true := by kernel_rfl
@[go_sem] theorem by8 : Tryz.prog.bytesOf 8 = 24 := by kernel_rfl
@[go_sem] theorem un8 : (Tryz.prog.underlying 8).isNone = false := by kernel_rfl
@[go_sem] theorem zo8 : zerosOf Tryz.prog 8 = some [.int .i64 0, .int .i64 0, .bool false, .int .u8 0] := by kernel_rfl
attribute [go_sem] Tryz.underlying8
@[go_sem] theorem gd8 : Tryz.prog.eqGuardType Tryz.prog.depth 8 = false := by kernel_rfl
@[go_sem] theorem st8 : Tryz.prog.stoodInHeld 8 = false := by kernel_rfl
@[go_sem] theorem eqs8 (d : Nat) (xs ys : List CV) : eqV Tryz.prog (d + 1) 8 (.agg xs) (.agg ys) = eqF Tryz.prog d xs ys (match Tryz.prog.underlying 8 with | some (.struct fs) => fs.toList | _ => []) := by rw [Tryz.underlying8]; exact eqV_struct Tryz.underlying8 st8 d xs ys
@[go_sem] theorem sz9 : szOf Tryz.prog 9 = some 1 := by kernel_rfl
@[go_sem] theorem ag9 : aggT Tryz.prog 9 = false := by kernel_rfl
@[go_sem] theorem by9 : Tryz.prog.bytesOf 9 = 16 := by kernel_rfl
@[go_sem] theorem un9 : (Tryz.prog.underlying 9).isNone = false := by kernel_rfl
@[go_sem] theorem zo9 : zerosOf Tryz.prog 9 = some [.str []] := by kernel_rfl
attribute [go_sem] Tryz.underlying9
@[go_sem] theorem eql9 (d : Nat) (a b : List UInt8) : eqV Tryz.prog (d + 1) 9 (.str a) (.str b) = some (a == b) := eqV_str Tryz.underlying9 d a b
@[go_sem] theorem sz10 : szOf Tryz.prog 10 = some 1 := by kernel_rfl
@[go_sem] theorem ag10 : aggT Tryz.prog 10 = false := by kernel_rfl
@[go_sem] theorem by10 : Tryz.prog.bytesOf 10 = 16 := by kernel_rfl
@[go_sem] theorem un10 : (Tryz.prog.underlying 10).isNone = false := by kernel_rfl
@[go_sem] theorem zo10 : zerosOf Tryz.prog 10 = some [.str []] := by kernel_rfl
attribute [go_sem] Tryz.underlying10
@[go_sem] theorem eql10 (d : Nat) (a b : List UInt8) : eqV Tryz.prog (d + 1) 10 (.str a) (.str b) = some (a == b) := eqV_str Tryz.underlying10 d a b
@[go_sem] theorem sz11 : szOf Tryz.prog 11 = some 1 := by kernel_rfl
@[go_sem] theorem ag11 : aggT Tryz.prog 11 = false := by kernel_rfl
@[go_sem] theorem by11 : Tryz.prog.bytesOf 11 = 16 := by kernel_rfl
@[go_sem] theorem un11 : (Tryz.prog.underlying 11).isNone = false := by kernel_rfl
@[go_sem] theorem zo11 : zerosOf Tryz.prog 11 = some [.str []] := by kernel_rfl
attribute [go_sem] Tryz.underlying11
@[go_sem] theorem eql11 (d : Nat) (a b : List UInt8) : eqV Tryz.prog (d + 1) 11 (.str a) (.str b) = some (a == b) := eqV_str Tryz.underlying11 d a b
@[go_sem] theorem sz12 : szOf Tryz.prog 12 = some 1 := by kernel_rfl
@[go_sem] theorem ag12 : aggT Tryz.prog 12 = false := by kernel_rfl
@[go_sem] theorem by12 : Tryz.prog.bytesOf 12 = 8 := by kernel_rfl
@[go_sem] theorem un12 : (Tryz.prog.underlying 12).isNone = false := by kernel_rfl
@[go_sem] theorem zo12 : zerosOf Tryz.prog 12 = some [.int .u64 0] := by kernel_rfl
attribute [go_sem] Tryz.underlying12
@[go_sem] theorem eql12 (d : Nat) (k : IntKind) (a b : Int) : eqV Tryz.prog (d + 1) 12 (.int k a) (.int k b) = some (a == b) := eqV_int Tryz.underlying12 d k a b
@[go_sem] theorem sz13 : szOf Tryz.prog 13 = some 2 := by kernel_rfl
@[go_sem] theorem ag13 : aggT Tryz.prog 13 = true := by kernel_rfl
@[go_sem] theorem by13 : Tryz.prog.bytesOf 13 = 24 := by kernel_rfl
@[go_sem] theorem un13 : (Tryz.prog.underlying 13).isNone = false := by kernel_rfl
@[go_sem] theorem zo13 : zerosOf Tryz.prog 13 = some [.str [], .int .u64 0] := by kernel_rfl
attribute [go_sem] Tryz.underlying13
@[go_sem] theorem gd13 : Tryz.prog.eqGuardType Tryz.prog.depth 13 = false := by kernel_rfl
@[go_sem] theorem sz14 : szOf Tryz.prog 14 = some 2 := by kernel_rfl
@[go_sem] theorem ag14 : aggT Tryz.prog 14 = true := by kernel_rfl
@[go_sem] theorem by14 : Tryz.prog.bytesOf 14 = 24 := by kernel_rfl
@[go_sem] theorem un14 : (Tryz.prog.underlying 14).isNone = false := by kernel_rfl
@[go_sem] theorem zo14 : zerosOf Tryz.prog 14 = some [.str [], .int .u64 0] := by kernel_rfl
attribute [go_sem] Tryz.underlying14
@[go_sem] theorem gd14 : Tryz.prog.eqGuardType Tryz.prog.depth 14 = false := by kernel_rfl
@[go_sem] theorem sz15 : szOf Tryz.prog 15 = some 1 := by kernel_rfl
@[go_sem] theorem ag15 : aggT Tryz.prog 15 = false := by kernel_rfl
@[go_sem] theorem by15 : Tryz.prog.bytesOf 15 = 8 := by kernel_rfl
@[go_sem] theorem un15 : (Tryz.prog.underlying 15).isNone = false := by kernel_rfl
@[go_sem] theorem zo15 : zerosOf Tryz.prog 15 = some [.nilP] := by kernel_rfl
attribute [go_sem] Tryz.underlying15
@[go_sem] theorem sz16 : szOf Tryz.prog 16 = some 1 := by kernel_rfl
@[go_sem] theorem ag16 : aggT Tryz.prog 16 = false := by kernel_rfl
@[go_sem] theorem by16 : Tryz.prog.bytesOf 16 = 8 := by kernel_rfl
@[go_sem] theorem un16 : (Tryz.prog.underlying 16).isNone = false := by kernel_rfl
@[go_sem] theorem zo16 : zerosOf Tryz.prog 16 = some [.nilP] := by kernel_rfl
attribute [go_sem] Tryz.underlying16
@[go_sem] theorem sz17 : szOf Tryz.prog 17 = some 1 := by kernel_rfl
@[go_sem] theorem ag17 : aggT Tryz.prog 17 = false := by kernel_rfl
@[go_sem] theorem by17 : Tryz.prog.bytesOf 17 = 8 := by kernel_rfl
@[go_sem] theorem un17 : (Tryz.prog.underlying 17).isNone = false := by kernel_rfl
@[go_sem] theorem zo17 : zerosOf Tryz.prog 17 = some [.nilP] := by kernel_rfl
attribute [go_sem] Tryz.underlying17
@[go_sem] theorem sz18 : szOf Tryz.prog 18 = some 1 := by kernel_rfl
@[go_sem] theorem ag18 : aggT Tryz.prog 18 = true := by kernel_rfl
@[go_sem] theorem by18 : Tryz.prog.bytesOf 18 = 8 := by kernel_rfl
@[go_sem] theorem un18 : (Tryz.prog.underlying 18).isNone = false := by kernel_rfl
@[go_sem] theorem zo18 : zerosOf Tryz.prog 18 = some [.nilP] := by kernel_rfl
attribute [go_sem] Tryz.underlying18
@[go_sem] theorem gd18 : Tryz.prog.eqGuardType Tryz.prog.depth 18 = false := by kernel_rfl
@[go_sem] theorem sz19 : szOf Tryz.prog 19 = some 1 := by kernel_rfl
@[go_sem] theorem ag19 : aggT Tryz.prog 19 = true := by kernel_rfl
@[go_sem] theorem by19 : Tryz.prog.bytesOf 19 = 8 := by kernel_rfl
@[go_sem] theorem un19 : (Tryz.prog.underlying 19).isNone = false := by kernel_rfl
@[go_sem] theorem zo19 : zerosOf Tryz.prog 19 = some [.nilP] := by kernel_rfl
attribute [go_sem] Tryz.underlying19
@[go_sem] theorem gd19 : Tryz.prog.eqGuardType Tryz.prog.depth 19 = false := by kernel_rfl
@[go_sem] theorem sz21 : szOf Tryz.prog 21 = some 1 := by kernel_rfl
@[go_sem] theorem ag21 : aggT Tryz.prog 21 = false := by kernel_rfl
@[go_sem] theorem by21 : Tryz.prog.bytesOf 21 = 4 := by kernel_rfl
@[go_sem] theorem un21 : (Tryz.prog.underlying 21).isNone = false := by kernel_rfl
@[go_sem] theorem zo21 : zerosOf Tryz.prog 21 = some [.int .i32 0] := by kernel_rfl
attribute [go_sem] Tryz.underlying21
@[go_sem] theorem eql21 (d : Nat) (k : IntKind) (a b : Int) : eqV Tryz.prog (d + 1) 21 (.int k a) (.int k b) = some (a == b) := eqV_int Tryz.underlying21 d k a b
@[go_sem] theorem sz22 : szOf Tryz.prog 22 = some 32 := by kernel_rfl
@[go_sem] theorem ag22 : aggT Tryz.prog 22 = true := by kernel_rfl
@[go_sem] theorem by22 : Tryz.prog.bytesOf 22 = 32 := by kernel_rfl
@[go_sem] theorem un22 : (Tryz.prog.underlying 22).isNone = false := by kernel_rfl
@[go_sem] theorem zo22 : zerosOf Tryz.prog 22 = some [.int .u8 0, .int .u8 0, .int .u8 0, .int .u8 0, .int .u8 0, .int .u8 0, .int .u8 0, .int .u8 0, .int .u8 0, .int .u8 0, .int .u8 0, .int .u8 0, .int .u8 0, .int .u8 0, .int .u8 0, .int .u8 0, .int .u8 0, .int .u8 0, .int .u8 0, .int .u8 0, .int .u8 0, .int .u8 0, .int .u8 0, .int .u8 0, .int .u8 0, .int .u8 0, .int .u8 0, .int .u8 0, .int .u8 0, .int .u8 0, .int .u8 0, .int .u8 0] := by kernel_rfl
attribute [go_sem] Tryz.underlying22
@[go_sem] theorem gd22 : Tryz.prog.eqGuardType Tryz.prog.depth 22 = false := by kernel_rfl
@[go_sem] theorem eqb22 (l1 l2 : List UInt8) (h1 : l1.length = 32) (h2 : l2.length = 32) (d : Nat) : eqV Tryz.prog (d + 2) 22 (.agg (l1.map byteC)) (.agg (l2.map byteC)) = some (l1 == l2) := eqV_bytes Tryz.underlying22 Tryz.underlying5 (by kernel_rfl) (by kernel_rfl) l1 l2 h1 h2
@[go_sem] theorem eqz22 (l1 : List UInt8) (h1 : l1.length = 32) (d : Nat) : eqV Tryz.prog (d + 2) 22 (.agg (l1.map byteC)) (.agg [.int .u8 0, .int .u8 0, .int .u8 0, .int .u8 0, .int .u8 0, .int .u8 0, .int .u8 0, .int .u8 0, .int .u8 0, .int .u8 0, .int .u8 0, .int .u8 0, .int .u8 0, .int .u8 0, .int .u8 0, .int .u8 0, .int .u8 0, .int .u8 0, .int .u8 0, .int .u8 0, .int .u8 0, .int .u8 0, .int .u8 0, .int .u8 0, .int .u8 0, .int .u8 0, .int .u8 0, .int .u8 0, .int .u8 0, .int .u8 0, .int .u8 0, .int .u8 0]) = some (l1 == List.replicate 32 0) := eqb22 l1 (List.replicate 32 0) h1 rfl d
@[go_sem] theorem sz23 : szOf Tryz.prog 23 = some 32 := by kernel_rfl
@[go_sem] theorem ag23 : aggT Tryz.prog 23 = true := by kernel_rfl
@[go_sem] theorem by23 : Tryz.prog.bytesOf 23 = 32 := by kernel_rfl
@[go_sem] theorem un23 : (Tryz.prog.underlying 23).isNone = false := by kernel_rfl
@[go_sem] theorem zo23 : zerosOf Tryz.prog 23 = some [.int .u8 0, .int .u8 0, .int .u8 0, .int .u8 0, .int .u8 0, .int .u8 0, .int .u8 0, .int .u8 0, .int .u8 0, .int .u8 0, .int .u8 0, .int .u8 0, .int .u8 0, .int .u8 0, .int .u8 0, .int .u8 0, .int .u8 0, .int .u8 0, .int .u8 0, .int .u8 0, .int .u8 0, .int .u8 0, .int .u8 0, .int .u8 0, .int .u8 0, .int .u8 0, .int .u8 0, .int .u8 0, .int .u8 0, .int .u8 0, .int .u8 0, .int .u8 0] := by kernel_rfl
attribute [go_sem] Tryz.underlying23
@[go_sem] theorem gd23 : Tryz.prog.eqGuardType Tryz.prog.depth 23 = false := by kernel_rfl
@[go_sem] theorem eqb23 (l1 l2 : List UInt8) (h1 : l1.length = 32) (h2 : l2.length = 32) (d : Nat) : eqV Tryz.prog (d + 2) 23 (.agg (l1.map byteC)) (.agg (l2.map byteC)) = some (l1 == l2) := eqV_bytes Tryz.underlying23 Tryz.underlying5 (by kernel_rfl) (by kernel_rfl) l1 l2 h1 h2
@[go_sem] theorem eqz23 (l1 : List UInt8) (h1 : l1.length = 32) (d : Nat) : eqV Tryz.prog (d + 2) 23 (.agg (l1.map byteC)) (.agg [.int .u8 0, .int .u8 0, .int .u8 0, .int .u8 0, .int .u8 0, .int .u8 0, .int .u8 0, .int .u8 0, .int .u8 0, .int .u8 0, .int .u8 0, .int .u8 0, .int .u8 0, .int .u8 0, .int .u8 0, .int .u8 0, .int .u8 0, .int .u8 0, .int .u8 0, .int .u8 0, .int .u8 0, .int .u8 0, .int .u8 0, .int .u8 0, .int .u8 0, .int .u8 0, .int .u8 0, .int .u8 0, .int .u8 0, .int .u8 0, .int .u8 0, .int .u8 0]) = some (l1 == List.replicate 32 0) := eqb23 l1 (List.replicate 32 0) h1 rfl d
@[go_sem] theorem sz25 : szOf Tryz.prog 25 = some 1 := by kernel_rfl
@[go_sem] theorem ag25 : aggT Tryz.prog 25 = false := by kernel_rfl
@[go_sem] theorem by25 : Tryz.prog.bytesOf 25 = 24 := by kernel_rfl
@[go_sem] theorem un25 : (Tryz.prog.underlying 25).isNone = false := by kernel_rfl
@[go_sem] theorem zo25 : zerosOf Tryz.prog 25 = some [.nilS] := by kernel_rfl
attribute [go_sem] Tryz.underlying25
@[go_sem] theorem el25 : elemT Tryz.prog 25 = some 64 := by kernel_rfl
@[go_sem] theorem ap25 (B : List Box) (s x : CV) : appendC Tryz.prog 25 B s x = appendK Tryz.prog 64 85 B s x := appendC_eq (by kernel_rfl) (by kernel_rfl) (by kernel_rfl) B s x
@[go_sem] theorem sz26 : szOf Tryz.prog 26 = some 34 := by kernel_rfl
@[go_sem] theorem ag26 : aggT Tryz.prog 26 = true := by kernel_rfl
@[go_sem] theorem by26 : Tryz.prog.bytesOf 26 = 64 := by kernel_rfl
@[go_sem] theorem un26 : (Tryz.prog.underlying 26).isNone = false := by kernel_rfl
@[go_sem] theorem zo26 : zerosOf Tryz.prog 26 = some [.int .u8 0, .int .u8 0, .int .u8 0, .int .u8 0, .int .u8 0, .int .u8 0, .int .u8 0, .int .u8 0, .int .u8 0, .int .u8 0, .int .u8 0, .int .u8 0, .int .u8 0, .int .u8 0, .int .u8 0, .int .u8 0, .int .u8 0, .int .u8 0, .int .u8 0, .int .u8 0, .int .u8 0, .int .u8 0, .int .u8 0, .int .u8 0, .int .u8 0, .int .u8 0, .int .u8 0, .int .u8 0, .int .u8 0, .int .u8 0, .int .u8 0, .int .u8 0, .int .i64 0, .nilS] := by kernel_rfl
attribute [go_sem] Tryz.underlying26
@[go_sem] theorem gd26 : Tryz.prog.eqGuardType Tryz.prog.depth 26 = false := by kernel_rfl
@[go_sem] theorem st26 : Tryz.prog.stoodInHeld 26 = false := by kernel_rfl
@[go_sem] theorem eqs26 (d : Nat) (xs ys : List CV) : eqV Tryz.prog (d + 1) 26 (.agg xs) (.agg ys) = eqF Tryz.prog d xs ys (match Tryz.prog.underlying 26 with | some (.struct fs) => fs.toList | _ => []) := by rw [Tryz.underlying26]; exact eqV_struct Tryz.underlying26 st26 d xs ys
@[go_sem] theorem sz27 : szOf Tryz.prog 27 = some 34 := by kernel_rfl
@[go_sem] theorem ag27 : aggT Tryz.prog 27 = true := by kernel_rfl
@[go_sem] theorem by27 : Tryz.prog.bytesOf 27 = 64 := by kernel_rfl
@[go_sem] theorem un27 : (Tryz.prog.underlying 27).isNone = false := by kernel_rfl
@[go_sem] theorem zo27 : zerosOf Tryz.prog 27 = some [.int .u8 0, .int .u8 0, .int .u8 0, .int .u8 0, .int .u8 0, .int .u8 0, .int .u8 0, .int .u8 0, .int .u8 0, .int .u8 0, .int .u8 0, .int .u8 0, .int .u8 0, .int .u8 0, .int .u8 0, .int .u8 0, .int .u8 0, .int .u8 0, .int .u8 0, .int .u8 0, .int .u8 0, .int .u8 0, .int .u8 0, .int .u8 0, .int .u8 0, .int .u8 0, .int .u8 0, .int .u8 0, .int .u8 0, .int .u8 0, .int .u8 0, .int .u8 0, .int .i64 0, .nilS] := by kernel_rfl
attribute [go_sem] Tryz.underlying27
@[go_sem] theorem gd27 : Tryz.prog.eqGuardType Tryz.prog.depth 27 = false := by kernel_rfl
@[go_sem] theorem st27 : Tryz.prog.stoodInHeld 27 = false := by kernel_rfl
@[go_sem] theorem eqs27 (d : Nat) (xs ys : List CV) : eqV Tryz.prog (d + 1) 27 (.agg xs) (.agg ys) = eqF Tryz.prog d xs ys (match Tryz.prog.underlying 27 with | some (.struct fs) => fs.toList | _ => []) := by rw [Tryz.underlying27]; exact eqV_struct Tryz.underlying27 st27 d xs ys
@[go_sem] theorem sz28 : szOf Tryz.prog 28 = some 1 := by kernel_rfl
@[go_sem] theorem ag28 : aggT Tryz.prog 28 = false := by kernel_rfl
@[go_sem] theorem by28 : Tryz.prog.bytesOf 28 = 8 := by kernel_rfl
@[go_sem] theorem un28 : (Tryz.prog.underlying 28).isNone = false := by kernel_rfl
@[go_sem] theorem zo28 : zerosOf Tryz.prog 28 = some [.int .i64 0] := by kernel_rfl
attribute [go_sem] Tryz.underlying28
@[go_sem] theorem eql28 (d : Nat) (k : IntKind) (a b : Int) : eqV Tryz.prog (d + 1) 28 (.int k a) (.int k b) = some (a == b) := eqV_int Tryz.underlying28 d k a b
@[go_sem] theorem sz33 : szOf Tryz.prog 33 = some 1 := by kernel_rfl
@[go_sem] theorem ag33 : aggT Tryz.prog 33 = false := by kernel_rfl
@[go_sem] theorem by33 : Tryz.prog.bytesOf 33 = 24 := by kernel_rfl
@[go_sem] theorem un33 : (Tryz.prog.underlying 33).isNone = false := by kernel_rfl
@[go_sem] theorem zo33 : zerosOf Tryz.prog 33 = some [.nilS] := by kernel_rfl
attribute [go_sem] Tryz.underlying33
@[go_sem] theorem el33 : elemT Tryz.prog 33 = some 5 := by kernel_rfl
@[go_sem] theorem ap33 (B : List Box) (s x : CV) : appendC Tryz.prog 33 B s x = appendK Tryz.prog 5 1 B s x := appendC_eq (by kernel_rfl) (by kernel_rfl) (by kernel_rfl) B s x
@[go_sem] theorem sz34 : szOf Tryz.prog 34 = some 1 := by kernel_rfl
@[go_sem] theorem ag34 : aggT Tryz.prog 34 = false := by kernel_rfl
@[go_sem] theorem by34 : Tryz.prog.bytesOf 34 = 8 := by kernel_rfl
@[go_sem] theorem un34 : (Tryz.prog.underlying 34).isNone = false := by kernel_rfl
@[go_sem] theorem zo34 : zerosOf Tryz.prog 34 = some [.nilP] := by kernel_rfl
attribute [go_sem] Tryz.underlying34
@[go_sem] theorem sz40 : szOf Tryz.prog 40 = some 1 := by kernel_rfl
@[go_sem] theorem ag40 : aggT Tryz.prog 40 = false := by kernel_rfl
@[go_sem] theorem by40 : Tryz.prog.bytesOf 40 = 24 := by kernel_rfl
@[go_sem] theorem un40 : (Tryz.prog.underlying 40).isNone = false := by kernel_rfl
@[go_sem] theorem zo40 : zerosOf Tryz.prog 40 = some [.nilS] := by kernel_rfl
attribute [go_sem] Tryz.underlying40
@[go_sem] theorem el40 : elemT Tryz.prog 40 = some 9 := by kernel_rfl
@[go_sem] theorem ap40 (B : List Box) (s x : CV) : appendC Tryz.prog 40 B s x = appendK Tryz.prog 9 1 B s x := appendC_eq (by kernel_rfl) (by kernel_rfl) (by kernel_rfl) B s x
@[go_sem] theorem sz45 : szOf Tryz.prog 45 = some 16 := by kernel_rfl
@[go_sem] theorem ag45 : aggT Tryz.prog 45 = true := by kernel_rfl
@[go_sem] theorem by45 : Tryz.prog.bytesOf 45 = 16 := by kernel_rfl
@[go_sem] theorem un45 : (Tryz.prog.underlying 45).isNone = false := by kernel_rfl
@[go_sem] theorem zo45 : zerosOf Tryz.prog 45 = some [.int .u8 0, .int .u8 0, .int .u8 0, .int .u8 0, .int .u8 0, .int .u8 0, .int .u8 0, .int .u8 0, .int .u8 0, .int .u8 0, .int .u8 0, .int .u8 0, .int .u8 0, .int .u8 0, .int .u8 0, .int .u8 0] := by kernel_rfl
attribute [go_sem] Tryz.underlying45
@[go_sem] theorem gd45 : Tryz.prog.eqGuardType Tryz.prog.depth 45 = false := by kernel_rfl
@[go_sem] theorem eqb45 (l1 l2 : List UInt8) (h1 : l1.length = 16) (h2 : l2.length = 16) (d : Nat) : eqV Tryz.prog (d + 2) 45 (.agg (l1.map byteC)) (.agg (l2.map byteC)) = some (l1 == l2) := eqV_bytes Tryz.underlying45 Tryz.underlying5 (by kernel_rfl) (by kernel_rfl) l1 l2 h1 h2
@[go_sem] theorem eqz45 (l1 : List UInt8) (h1 : l1.length = 16) (d : Nat) : eqV Tryz.prog (d + 2) 45 (.agg (l1.map byteC)) (.agg [.int .u8 0, .int .u8 0, .int .u8 0, .int .u8 0, .int .u8 0, .int .u8 0, .int .u8 0, .int .u8 0, .int .u8 0, .int .u8 0, .int .u8 0, .int .u8 0, .int .u8 0, .int .u8 0, .int .u8 0, .int .u8 0]) = some (l1 == List.replicate 16 0) := eqb45 l1 (List.replicate 16 0) h1 rfl d
@[go_sem] theorem sz46 : szOf Tryz.prog 46 = some 17 := by kernel_rfl
@[go_sem] theorem ag46 : aggT Tryz.prog 46 = true := by kernel_rfl
@[go_sem] theorem by46 : Tryz.prog.bytesOf 46 = 17 := by kernel_rfl
@[go_sem] theorem un46 : (Tryz.prog.underlying 46).isNone = false := by kernel_rfl
@[go_sem] theorem zo46 : zerosOf Tryz.prog 46 = some [.bool false, .int .u8 0, .int .u8 0, .int .u8 0, .int .u8 0, .int .u8 0, .int .u8 0, .int .u8 0, .int .u8 0, .int .u8 0, .int .u8 0, .int .u8 0, .int .u8 0, .int .u8 0, .int .u8 0, .int .u8 0, .int .u8 0] := by kernel_rfl
attribute [go_sem] Tryz.underlying46
@[go_sem] theorem gd46 : Tryz.prog.eqGuardType Tryz.prog.depth 46 = false := by kernel_rfl
@[go_sem] theorem st46 : Tryz.prog.stoodInHeld 46 = false := by kernel_rfl
@[go_sem] theorem eqs46 (d : Nat) (xs ys : List CV) : eqV Tryz.prog (d + 1) 46 (.agg xs) (.agg ys) = eqF Tryz.prog d xs ys (match Tryz.prog.underlying 46 with | some (.struct fs) => fs.toList | _ => []) := by rw [Tryz.underlying46]; exact eqV_struct Tryz.underlying46 st46 d xs ys
@[go_sem] theorem sz47 : szOf Tryz.prog 47 = some 17 := by kernel_rfl
@[go_sem] theorem ag47 : aggT Tryz.prog 47 = true := by kernel_rfl
@[go_sem] theorem by47 : Tryz.prog.bytesOf 47 = 17 := by kernel_rfl
@[go_sem] theorem un47 : (Tryz.prog.underlying 47).isNone = false := by kernel_rfl
@[go_sem] theorem zo47 : zerosOf Tryz.prog 47 = some [.bool false, .int .u8 0, .int .u8 0, .int .u8 0, .int .u8 0, .int .u8 0, .int .u8 0, .int .u8 0, .int .u8 0, .int .u8 0, .int .u8 0, .int .u8 0, .int .u8 0, .int .u8 0, .int .u8 0, .int .u8 0, .int .u8 0] := by kernel_rfl
attribute [go_sem] Tryz.underlying47
@[go_sem] theorem gd47 : Tryz.prog.eqGuardType Tryz.prog.depth 47 = false := by kernel_rfl
@[go_sem] theorem st47 : Tryz.prog.stoodInHeld 47 = false := by kernel_rfl
@[go_sem] theorem eqs47 (d : Nat) (xs ys : List CV) : eqV Tryz.prog (d + 1) 47 (.agg xs) (.agg ys) = eqF Tryz.prog d xs ys (match Tryz.prog.underlying 47 with | some (.struct fs) => fs.toList | _ => []) := by rw [Tryz.underlying47]; exact eqV_struct Tryz.underlying47 st47 d xs ys
@[go_sem] theorem sz48 : szOf Tryz.prog 48 = some 18 := by kernel_rfl
@[go_sem] theorem ag48 : aggT Tryz.prog 48 = true := by kernel_rfl
@[go_sem] theorem by48 : Tryz.prog.bytesOf 48 = 32 := by kernel_rfl
@[go_sem] theorem un48 : (Tryz.prog.underlying 48).isNone = false := by kernel_rfl
@[go_sem] theorem zo48 : zerosOf Tryz.prog 48 = some [.bool false, .int .u8 0, .int .u8 0, .int .u8 0, .int .u8 0, .int .u8 0, .int .u8 0, .int .u8 0, .int .u8 0, .int .u8 0, .int .u8 0, .int .u8 0, .int .u8 0, .int .u8 0, .int .u8 0, .int .u8 0, .int .u8 0, .int .i64 0] := by kernel_rfl
attribute [go_sem] Tryz.underlying48
@[go_sem] theorem gd48 : Tryz.prog.eqGuardType Tryz.prog.depth 48 = false := by kernel_rfl
@[go_sem] theorem st48 : Tryz.prog.stoodInHeld 48 = false := by kernel_rfl
@[go_sem] theorem eqs48 (d : Nat) (xs ys : List CV) : eqV Tryz.prog (d + 1) 48 (.agg xs) (.agg ys) = eqF Tryz.prog d xs ys (match Tryz.prog.underlying 48 with | some (.struct fs) => fs.toList | _ => []) := by rw [Tryz.underlying48]; exact eqV_struct Tryz.underlying48 st48 d xs ys
@[go_sem] theorem sz49 : szOf Tryz.prog 49 = some 18 := by kernel_rfl
@[go_sem] theorem ag49 : aggT Tryz.prog 49 = true := by kernel_rfl
@[go_sem] theorem by49 : Tryz.prog.bytesOf 49 = 32 := by kernel_rfl
@[go_sem] theorem un49 : (Tryz.prog.underlying 49).isNone = false := by kernel_rfl
@[go_sem] theorem zo49 : zerosOf Tryz.prog 49 = some [.bool false, .int .u8 0, .int .u8 0, .int .u8 0, .int .u8 0, .int .u8 0, .int .u8 0, .int .u8 0, .int .u8 0, .int .u8 0, .int .u8 0, .int .u8 0, .int .u8 0, .int .u8 0, .int .u8 0, .int .u8 0, .int .u8 0, .int .i64 0] := by kernel_rfl
attribute [go_sem] Tryz.underlying49
@[go_sem] theorem gd49 : Tryz.prog.eqGuardType Tryz.prog.depth 49 = false := by kernel_rfl
@[go_sem] theorem st49 : Tryz.prog.stoodInHeld 49 = false := by kernel_rfl
@[go_sem] theorem eqs49 (d : Nat) (xs ys : List CV) : eqV Tryz.prog (d + 1) 49 (.agg xs) (.agg ys) = eqF Tryz.prog d xs ys (match Tryz.prog.underlying 49 with | some (.struct fs) => fs.toList | _ => []) := by rw [Tryz.underlying49]; exact eqV_struct Tryz.underlying49 st49 d xs ys
@[go_sem] theorem sz55 : szOf Tryz.prog 55 = some 2 := by kernel_rfl
@[go_sem] theorem ag55 : aggT Tryz.prog 55 = true := by kernel_rfl
@[go_sem] theorem by55 : Tryz.prog.bytesOf 55 = 32 := by kernel_rfl
@[go_sem] theorem un55 : (Tryz.prog.underlying 55).isNone = false := by kernel_rfl
@[go_sem] theorem zo55 : zerosOf Tryz.prog 55 = some [.nilS, .int .i64 0] := by kernel_rfl
attribute [go_sem] Tryz.underlying55
@[go_sem] theorem gd55 : Tryz.prog.eqGuardType Tryz.prog.depth 55 = false := by kernel_rfl
@[go_sem] theorem st55 : Tryz.prog.stoodInHeld 55 = false := by kernel_rfl
@[go_sem] theorem eqs55 (d : Nat) (xs ys : List CV) : eqV Tryz.prog (d + 1) 55 (.agg xs) (.agg ys) = eqF Tryz.prog d xs ys (match Tryz.prog.underlying 55 with | some (.struct fs) => fs.toList | _ => []) := by rw [Tryz.underlying55]; exact eqV_struct Tryz.underlying55 st55 d xs ys
@[go_sem] theorem sz56 : szOf Tryz.prog 56 = some 2 := by kernel_rfl
@[go_sem] theorem ag56 : aggT Tryz.prog 56 = true := by kernel_rfl
@[go_sem] theorem by56 : Tryz.prog.bytesOf 56 = 32 := by kernel_rfl
@[go_sem] theorem un56 : (Tryz.prog.underlying 56).isNone = false := by kernel_rfl
@[go_sem] theorem zo56 : zerosOf Tryz.prog 56 = some [.nilS, .int .i64 0] := by kernel_rfl
attribute [go_sem] Tryz.underlying56
@[go_sem] theorem gd56 : Tryz.prog.eqGuardType Tryz.prog.depth 56 = false := by kernel_rfl
@[go_sem] theorem st56 : Tryz.prog.stoodInHeld 56 = false := by kernel_rfl
@[go_sem] theorem eqs56 (d : Nat) (xs ys : List CV) : eqV Tryz.prog (d + 1) 56 (.agg xs) (.agg ys) = eqF Tryz.prog d xs ys (match Tryz.prog.underlying 56 with | some (.struct fs) => fs.toList | _ => []) := by rw [Tryz.underlying56]; exact eqV_struct Tryz.underlying56 st56 d xs ys
@[go_sem] theorem sz59 : szOf Tryz.prog 59 = some 1 := by kernel_rfl
@[go_sem] theorem ag59 : aggT Tryz.prog 59 = false := by kernel_rfl
@[go_sem] theorem by59 : Tryz.prog.bytesOf 59 = 24 := by kernel_rfl
@[go_sem] theorem un59 : (Tryz.prog.underlying 59).isNone = false := by kernel_rfl
@[go_sem] theorem zo59 : zerosOf Tryz.prog 59 = some [.nilS] := by kernel_rfl
attribute [go_sem] Tryz.underlying59
@[go_sem] theorem el59 : elemT Tryz.prog 59 = some 49 := by kernel_rfl
@[go_sem] theorem ap59 (B : List Box) (s x : CV) : appendC Tryz.prog 59 B s x = appendK Tryz.prog 49 18 B s x := appendC_eq (by kernel_rfl) (by kernel_rfl) (by kernel_rfl) B s x
@[go_sem] theorem sz61 : szOf Tryz.prog 61 = some 18 := by kernel_rfl
@[go_sem] theorem ag61 : aggT Tryz.prog 61 = true := by kernel_rfl
@[go_sem] theorem by61 : Tryz.prog.bytesOf 61 = 32 := by kernel_rfl
@[go_sem] theorem un61 : (Tryz.prog.underlying 61).isNone = false := by kernel_rfl
@[go_sem] theorem zo61 : zerosOf Tryz.prog 61 = some [.bool false, .int .u8 0, .int .u8 0, .int .u8 0, .int .u8 0, .int .u8 0, .int .u8 0, .int .u8 0, .int .u8 0, .int .u8 0, .int .u8 0, .int .u8 0, .int .u8 0, .int .u8 0, .int .u8 0, .int .u8 0, .int .u8 0, .int .i64 0] := by kernel_rfl
attribute [go_sem] Tryz.underlying61
@[go_sem] theorem gd61 : Tryz.prog.eqGuardType Tryz.prog.depth 61 = false := by kernel_rfl
@[go_sem] theorem st61 : Tryz.prog.stoodInHeld 61 = false := by kernel_rfl
@[go_sem] theorem eqs61 (d : Nat) (xs ys : List CV) : eqV Tryz.prog (d + 1) 61 (.agg xs) (.agg ys) = eqF Tryz.prog d xs ys (match Tryz.prog.underlying 61 with | some (.struct fs) => fs.toList | _ => []) := by rw [Tryz.underlying61]; exact eqV_struct Tryz.underlying61 st61 d xs ys
@[go_sem] theorem sz62 : szOf Tryz.prog 62 = some 18 := by kernel_rfl
@[go_sem] theorem ag62 : aggT Tryz.prog 62 = true := by kernel_rfl
@[go_sem] theorem by62 : Tryz.prog.bytesOf 62 = 32 := by kernel_rfl
@[go_sem] theorem un62 : (Tryz.prog.underlying 62).isNone = false := by kernel_rfl
@[go_sem] theorem zo62 : zerosOf Tryz.prog 62 = some [.bool false, .int .u8 0, .int .u8 0, .int .u8 0, .int .u8 0, .int .u8 0, .int .u8 0, .int .u8 0, .int .u8 0, .int .u8 0, .int .u8 0, .int .u8 0, .int .u8 0, .int .u8 0, .int .u8 0, .int .u8 0, .int .u8 0, .int .i64 0] := by kernel_rfl
attribute [go_sem] Tryz.underlying62
@[go_sem] theorem gd62 : Tryz.prog.eqGuardType Tryz.prog.depth 62 = false := by kernel_rfl
@[go_sem] theorem st62 : Tryz.prog.stoodInHeld 62 = false := by kernel_rfl
@[go_sem] theorem eqs62 (d : Nat) (xs ys : List CV) : eqV Tryz.prog (d + 1) 62 (.agg xs) (.agg ys) = eqF Tryz.prog d xs ys (match Tryz.prog.underlying 62 with | some (.struct fs) => fs.toList | _ => []) := by rw [Tryz.underlying62]; exact eqV_struct Tryz.underlying62 st62 d xs ys
@[go_sem] theorem sz63 : szOf Tryz.prog 63 = some 85 := by kernel_rfl
@[go_sem] theorem ag63 : aggT Tryz.prog 63 = true := by kernel_rfl
@[go_sem] theorem by63 : Tryz.prog.bytesOf 63 = 136 := by kernel_rfl
@[go_sem] theorem un63 : (Tryz.prog.underlying 63).isNone = false := by kernel_rfl
@[go_sem] theorem zo63 : zerosOf Tryz.prog 63 = some [.int .u8 0, .int .u8 0, .int .u8 0, .int .u8 0, .int .u8 0, .int .u8 0, .int .u8 0, .int .u8 0, .int .u8 0, .int .u8 0, .int .u8 0, .int .u8 0, .int .u8 0, .int .u8 0, .int .u8 0, .int .u8 0, .int .u8 0, .int .u8 0, .int .u8 0, .int .u8 0, .int .u8 0, .int .u8 0, .int .u8 0, .int .u8 0, .int .u8 0, .int .u8 0, .int .u8 0, .int .u8 0, .int .u8 0, .int .u8 0, .int .u8 0, .int .u8 0, .int .u8 0, .int .u8 0, .int .u8 0, .int .u8 0, .int .u8 0, .int .u8 0, .int .u8 0, .int .u8 0, .int .u8 0, .int .u8 0, .int .u8 0, .int .u8 0, .int .u8 0, .int .u8 0, .int .u8 0, .int .u8 0, .int .u8 0, .int .u8 0, .int .u8 0, .int .u8 0, .int .u8 0, .int .u8 0, .int .u8 0, .int .u8 0, .int .u8 0, .int .u8 0, .int .u8 0, .int .u8 0, .int .u8 0, .int .u8 0, .int .u8 0, .int .u8 0, .bool false, .bool false, .int .u8 0, .int .u8 0, .int .u8 0, .int .u8 0, .int .u8 0, .int .u8 0, .int .u8 0, .int .u8 0, .int .u8 0, .int .u8 0, .int .u8 0, .int .u8 0, .int .u8 0, .int .u8 0, .int .u8 0, .int .u8 0, .int .i64 0, .int .i64 0, .nilS] := by kernel_rfl
attribute [go_sem] Tryz.underlying63
@[go_sem] theorem gd63 : Tryz.prog.eqGuardType Tryz.prog.depth 63 = false := by kernel_rfl
@[go_sem] theorem st63 : Tryz.prog.stoodInHeld 63 = false := by kernel_rfl
@[go_sem] theorem eqs63 (d : Nat) (xs ys : List CV) : eqV Tryz.prog (d + 1) 63 (.agg xs) (.agg ys) = eqF Tryz.prog d xs ys (match Tryz.prog.underlying 63 with | some (.struct fs) => fs.toList | _ => []) := by rw [Tryz.underlying63]; exact eqV_struct Tryz.underlying63 st63 d xs ys
@[go_sem] theorem sz64 : szOf Tryz.prog 64 = some 85 := by kernel_rfl
@[go_sem] theorem ag64 : aggT Tryz.prog 64 = true := by kernel_rfl
@[go_sem] theorem by64 : Tryz.prog.bytesOf 64 = 136 := by kernel_rfl
@[go_sem] theorem un64 : (Tryz.prog.underlying 64).isNone = false := by kernel_rfl
@[go_sem] theorem zo64 : zerosOf Tryz.prog 64 = some [.int .u8 0, .int .u8 0, .int .u8 0, .int .u8 0, .int .u8 0, .int .u8 0, .int .u8 0, .int .u8 0, .int .u8 0, .int .u8 0, .int .u8 0, .int .u8 0, .int .u8 0, .int .u8 0, .int .u8 0, .int .u8 0, .int .u8 0, .int .u8 0, .int .u8 0, .int .u8 0, .int .u8 0, .int .u8 0, .int .u8 0, .int .u8 0, .int .u8 0, .int .u8 0, .int .u8 0, .int .u8 0, .int .u8 0, .int .u8 0, .int .u8 0, .int .u8 0, .int .u8 0, .int .u8 0, .int .u8 0, .int .u8 0, .int .u8 0, .int .u8 0, .int .u8 0, .int .u8 0, .int .u8 0, .int .u8 0, .int .u8 0, .int .u8 0, .int .u8 0, .int .u8 0, .int .u8 0, .int .u8 0, .int .u8 0, .int .u8 0, .int .u8 0, .int .u8 0, .int .u8 0, .int .u8 0, .int .u8 0, .int .u8 0, .int .u8 0, .int .u8 0, .int .u8 0, .int .u8 0, .int .u8 0, .int .u8 0, .int .u8 0, .int .u8 0, .bool false, .bool false, .int .u8 0, .int .u8 0, .int .u8 0, .int .u8 0, .int .u8 0, .int .u8 0, .int .u8 0, .int .u8 0, .int .u8 0, .int .u8 0, .int .u8 0, .int .u8 0, .int .u8 0, .int .u8 0, .int .u8 0, .int .u8 0, .int .i64 0, .int .i64 0, .nilS] := by kernel_rfl
attribute [go_sem] Tryz.underlying64
@[go_sem] theorem gd64 : Tryz.prog.eqGuardType Tryz.prog.depth 64 = false := by kernel_rfl
@[go_sem] theorem st64 : Tryz.prog.stoodInHeld 64 = false := by kernel_rfl
@[go_sem] theorem eqs64 (d : Nat) (xs ys : List CV) : eqV Tryz.prog (d + 1) 64 (.agg xs) (.agg ys) = eqF Tryz.prog d xs ys (match Tryz.prog.underlying 64 with | some (.struct fs) => fs.toList | _ => []) := by rw [Tryz.underlying64]; exact eqV_struct Tryz.underlying64 st64 d xs ys
@[go_sem] theorem sz66 : szOf Tryz.prog 66 = some 1 := by kernel_rfl
@[go_sem] theorem ag66 : aggT Tryz.prog 66 = false := by kernel_rfl
@[go_sem] theorem by66 : Tryz.prog.bytesOf 66 = 8 := by kernel_rfl
@[go_sem] theorem un66 : (Tryz.prog.underlying 66).isNone = false := by kernel_rfl
@[go_sem] theorem zo66 : zerosOf Tryz.prog 66 = some [.nilP] := by kernel_rfl
attribute [go_sem] Tryz.underlying66
@[go_sem] theorem sz67 : szOf Tryz.prog 67 = some 2 := by kernel_rfl
@[go_sem] theorem ag67 : aggT Tryz.prog 67 = true := by kernel_rfl
@[go_sem] theorem by67 : Tryz.prog.bytesOf 67 = 32 := by kernel_rfl
@[go_sem] theorem un67 : (Tryz.prog.underlying 67).isNone = false := by kernel_rfl
@[go_sem] theorem zo67 : zerosOf Tryz.prog 67 = some [.nilP, .nilS] := by kernel_rfl
attribute [go_sem] Tryz.underlying67
@[go_sem] theorem gd67 : Tryz.prog.eqGuardType Tryz.prog.depth 67 = false := by kernel_rfl
@[go_sem] theorem st67 : Tryz.prog.stoodInHeld 67 = false := by kernel_rfl
@[go_sem] theorem eqs67 (d : Nat) (xs ys : List CV) : eqV Tryz.prog (d + 1) 67 (.agg xs) (.agg ys) = eqF Tryz.prog d xs ys (match Tryz.prog.underlying 67 with | some (.struct fs) => fs.toList | _ => []) := by rw [Tryz.underlying67]; exact eqV_struct Tryz.underlying67 st67 d xs ys
@[go_sem] theorem sz68 : szOf Tryz.prog 68 = some 2 := by kernel_rfl
@[go_sem] theorem ag68 : aggT Tryz.prog 68 = true := by kernel_rfl
@[go_sem] theorem by68 : Tryz.prog.bytesOf 68 = 32 := by kernel_rfl
@[go_sem] theorem un68 : (Tryz.prog.underlying 68).isNone = false := by kernel_rfl
@[go_sem] theorem zo68 : zerosOf Tryz.prog 68 = some [.nilP, .nilS] := by kernel_rfl
attribute [go_sem] Tryz.underlying68
@[go_sem] theorem gd68 : Tryz.prog.eqGuardType Tryz.prog.depth 68 = false := by kernel_rfl
@[go_sem] theorem st68 : Tryz.prog.stoodInHeld 68 = false := by kernel_rfl
@[go_sem] theorem eqs68 (d : Nat) (xs ys : List CV) : eqV Tryz.prog (d + 1) 68 (.agg xs) (.agg ys) = eqF Tryz.prog d xs ys (match Tryz.prog.underlying 68 with | some (.struct fs) => fs.toList | _ => []) := by rw [Tryz.underlying68]; exact eqV_struct Tryz.underlying68 st68 d xs ys
@[go_sem] theorem sz79 : szOf Tryz.prog 79 = some 1 := by kernel_rfl
@[go_sem] theorem ag79 : aggT Tryz.prog 79 = false := by kernel_rfl
@[go_sem] theorem by79 : Tryz.prog.bytesOf 79 = 8 := by kernel_rfl
@[go_sem] theorem un79 : (Tryz.prog.underlying 79).isNone = false := by kernel_rfl
@[go_sem] theorem zo79 : zerosOf Tryz.prog 79 = some [.int .i64 0] := by kernel_rfl
attribute [go_sem] Tryz.underlying79
@[go_sem] theorem eql79 (d : Nat) (k : IntKind) (a b : Int) : eqV Tryz.prog (d + 1) 79 (.int k a) (.int k b) = some (a == b) := eqV_int Tryz.underlying79 d k a b
@[go_sem] theorem sz81 : szOf Tryz.prog 81 = some 1 := by kernel_rfl
@[go_sem] theorem ag81 : aggT Tryz.prog 81 = false := by kernel_rfl
@[go_sem] theorem by81 : Tryz.prog.bytesOf 81 = 8 := by kernel_rfl
@[go_sem] theorem un81 : (Tryz.prog.underlying 81).isNone = false := by kernel_rfl
@[go_sem] theorem zo81 : zerosOf Tryz.prog 81 = some [.nilP] := by kernel_rfl
attribute [go_sem] Tryz.underlying81
@[go_sem] theorem sz82 : szOf Tryz.prog 82 = some 37 := by kernel_rfl
@[go_sem] theorem ag82 : aggT Tryz.prog 82 = true := by kernel_rfl
@[go_sem] theorem by82 : Tryz.prog.bytesOf 82 = 104 := by kernel_rfl
@[go_sem] theorem un82 : (Tryz.prog.underlying 82).isNone = false := by kernel_rfl
@[go_sem] theorem zo82 : zerosOf Tryz.prog 82 = some [.int .u8 0, .int .u8 0, .int .u8 0, .int .u8 0, .int .u8 0, .int .u8 0, .int .u8 0, .int .u8 0, .int .u8 0, .int .u8 0, .int .u8 0, .int .u8 0, .int .u8 0, .int .u8 0, .int .u8 0, .int .u8 0, .int .u8 0, .int .u8 0, .int .u8 0, .int .u8 0, .int .u8 0, .int .u8 0, .int .u8 0, .int .u8 0, .int .u8 0, .int .u8 0, .int .u8 0, .int .u8 0, .int .u8 0, .int .u8 0, .int .u8 0, .int .u8 0, .int .i64 0, .nilS, .int .i64 0, .nilS, .bool false] := by kernel_rfl
attribute [go_sem] Tryz.underlying82
@[go_sem] theorem gd82 : Tryz.prog.eqGuardType Tryz.prog.depth 82 = false := by kernel_rfl
@[go_sem] theorem st82 : Tryz.prog.stoodInHeld 82 = false := by kernel_rfl
@[go_sem] theorem eqs82 (d : Nat) (xs ys : List CV) : eqV Tryz.prog (d + 1) 82 (.agg xs) (.agg ys) = eqF Tryz.prog d xs ys (match Tryz.prog.underlying 82 with | some (.struct fs) => fs.toList | _ => []) := by rw [Tryz.underlying82]; exact eqV_struct Tryz.underlying82 st82 d xs ys
@[go_sem] theorem sz83 : szOf Tryz.prog 83 = some 37 := by kernel_rfl
@[go_sem] theorem ag83 : aggT Tryz.prog 83 = true := by kernel_rfl
@[go_sem] theorem by83 : Tryz.prog.bytesOf 83 = 104 := by kernel_rfl
@[go_sem] theorem un83 : (Tryz.prog.underlying 83).isNone = false := by kernel_rfl
@[go_sem] theorem zo83 : zerosOf Tryz.prog 83 = some [.int .u8 0, .int .u8 0, .int .u8 0, .int .u8 0, .int .u8 0, .int .u8 0, .int .u8 0, .int .u8 0, .int .u8 0, .int .u8 0, .int .u8 0, .int .u8 0, .int .u8 0, .int .u8 0, .int .u8 0, .int .u8 0, .int .u8 0, .int .u8 0, .int .u8 0, .int .u8 0, .int .u8 0, .int .u8 0, .int .u8 0, .int .u8 0, .int .u8 0, .int .u8 0, .int .u8 0, .int .u8 0, .int .u8 0, .int .u8 0, .int .u8 0, .int .u8 0, .int .i64 0, .nilS, .int .i64 0, .nilS, .bool false] := by kernel_rfl
attribute [go_sem] Tryz.underlying83
@[go_sem] theorem gd83 : Tryz.prog.eqGuardType Tryz.prog.depth 83 = false := by kernel_rfl
@[go_sem] theorem st83 : Tryz.prog.stoodInHeld 83 = false := by kernel_rfl
@[go_sem] theorem eqs83 (d : Nat) (xs ys : List CV) : eqV Tryz.prog (d + 1) 83 (.agg xs) (.agg ys) = eqF Tryz.prog d xs ys (match Tryz.prog.underlying 83 with | some (.struct fs) => fs.toList | _ => []) := by rw [Tryz.underlying83]; exact eqV_struct Tryz.underlying83 st83 d xs ys
@[go_sem] theorem sz98 : szOf Tryz.prog 98 = some 1 := by kernel_rfl
@[go_sem] theorem ag98 : aggT Tryz.prog 98 = false := by kernel_rfl
@[go_sem] theorem by98 : Tryz.prog.bytesOf 98 = 8 := by kernel_rfl
@[go_sem] theorem un98 : (Tryz.prog.underlying 98).isNone = false := by kernel_rfl
@[go_sem] theorem zo98 : zerosOf Tryz.prog 98 = some [.int .u64 0] := by kernel_rfl
attribute [go_sem] Tryz.underlying98
@[go_sem] theorem eql98 (d : Nat) (k : IntKind) (a b : Int) : eqV Tryz.prog (d + 1) 98 (.int k a) (.int k b) = some (a == b) := eqV_int Tryz.underlying98 d k a b
@[go_sem] theorem sz102 : szOf Tryz.prog 102 = some 1 := by kernel_rfl
@[go_sem] theorem ag102 : aggT Tryz.prog 102 = false := by kernel_rfl
@[go_sem] theorem by102 : Tryz.prog.bytesOf 102 = 8 := by kernel_rfl
@[go_sem] theorem un102 : (Tryz.prog.underlying 102).isNone = false := by kernel_rfl
@[go_sem] theorem zo102 : zerosOf Tryz.prog 102 = some [.nilP] := by kernel_rfl
attribute [go_sem] Tryz.underlying102
@[go_sem] theorem sz114 : szOf Tryz.prog 114 = some 1 := by kernel_rfl
@[go_sem] theorem ag114 : aggT Tryz.prog 114 = false := by kernel_rfl
@[go_sem] theorem by114 : Tryz.prog.bytesOf 114 = 8 := by kernel_rfl
@[go_sem] theorem un114 : (Tryz.prog.underlying 114).isNone = false := by kernel_rfl
@[go_sem] theorem zo114 : zerosOf Tryz.prog 114 = some [.nilP] := by kernel_rfl
attribute [go_sem] Tryz.underlying114
@[go_sem] theorem sz116 : szOf Tryz.prog 116 = some 24 := by kernel_rfl
@[go_sem] theorem ag116 : aggT Tryz.prog 116 = true := by kernel_rfl
@[go_sem] theorem by116 : Tryz.prog.bytesOf 116 = 24 := by kernel_rfl
@[go_sem] theorem un116 : (Tryz.prog.underlying 116).isNone = false := by kernel_rfl
@[go_sem] theorem zo116 : zerosOf Tryz.prog 116 = some [.int .u8 0, .int .u8 0, .int .u8 0, .int .u8 0, .int .u8 0, .int .u8 0, .int .u8 0, .int .u8 0, .int .u8 0, .int .u8 0, .int .u8 0, .int .u8 0, .int .u8 0, .int .u8 0, .int .u8 0, .int .u8 0, .int .u8 0, .int .u8 0, .int .u8 0, .int .u8 0, .int .u8 0, .int .u8 0, .int .u8 0, .int .u8 0] := by kernel_rfl
attribute [go_sem] Tryz.underlying116
@[go_sem] theorem gd116 : Tryz.prog.eqGuardType Tryz.prog.depth 116 = false := by kernel_rfl
@[go_sem] theorem eqb116 (l1 l2 : List UInt8) (h1 : l1.length = 24) (h2 : l2.length = 24) (d : Nat) : eqV Tryz.prog (d + 2) 116 (.agg (l1.map byteC)) (.agg (l2.map byteC)) = some (l1 == l2) := eqV_bytes Tryz.underlying116 Tryz.underlying5 (by kernel_rfl) (by kernel_rfl) l1 l2 h1 h2
@[go_sem] theorem eqz116 (l1 : List UInt8) (h1 : l1.length = 24) (d : Nat) : eqV Tryz.prog (d + 2) 116 (.agg (l1.map byteC)) (.agg [.int .u8 0, .int .u8 0, .int .u8 0, .int .u8 0, .int .u8 0, .int .u8 0, .int .u8 0, .int .u8 0, .int .u8 0, .int .u8 0, .int .u8 0, .int .u8 0, .int .u8 0, .int .u8 0, .int .u8 0, .int .u8 0, .int .u8 0, .int .u8 0, .int .u8 0, .int .u8 0, .int .u8 0, .int .u8 0, .int .u8 0, .int .u8 0]) = some (l1 == List.replicate 24 0) := eqb116 l1 (List.replicate 24 0) h1 rfl d
@[go_sem] theorem sz117 : szOf Tryz.prog 117 = some 1 := by kernel_rfl
@[go_sem] theorem ag117 : aggT Tryz.prog 117 = false := by kernel_rfl
@[go_sem] theorem by117 : Tryz.prog.bytesOf 117 = 8 := by kernel_rfl
@[go_sem] theorem un117 : (Tryz.prog.underlying 117).isNone = false := by kernel_rfl
@[go_sem] theorem zo117 : zerosOf Tryz.prog 117 = some [.int .u64 0] := by kernel_rfl
attribute [go_sem] Tryz.underlying117
@[go_sem] theorem eql117 (d : Nat) (k : IntKind) (a b : Int) : eqV Tryz.prog (d + 1) 117 (.int k a) (.int k b) = some (a == b) := eqV_int Tryz.underlying117 d k a b
@[go_sem] theorem sz124 : szOf Tryz.prog 124 = some 256 := by kernel_rfl
@[go_sem] theorem ag124 : aggT Tryz.prog 124 = true := by kernel_rfl
@[go_sem] theorem by124 : Tryz.prog.bytesOf 124 = 256 := by kernel_rfl
@[go_sem] theorem un124 : (Tryz.prog.underlying 124).isNone = false := by kernel_rfl
@[go_sem] theorem zo124 : zerosOf Tryz.prog 124 = some [.bool false, .bool false, .bool false, .bool false, .bool false, .bool false, .bool false, .bool false, .bool false, .bool false, .bool false, .bool false, .bool false, .bool false, .bool false, .bool false, .bool false, .bool false, .bool false, .bool false, .bool false, .bool false, .bool false, .bool false, .bool false, .bool false, .bool false, .bool false, .bool false, .bool false, .bool false, .bool false, .bool false, .bool false, .bool false, .bool false, .bool false, .bool false, .bool false, .bool false, .bool false, .bool false, .bool false, .bool false, .bool false, .bool false, .bool false, .bool false, .bool false, .bool false, .bool false, .bool false, .bool false, .bool false, .bool false, .bool false, .bool false, .bool false, .bool false, .bool false, .bool false, .bool false, .bool false, .bool false, .bool false, .bool false, .bool false, .bool false, .bool false, .bool false, .bool false, .bool false, .bool false, .bool false, .bool false, .bool false, .bool false, .bool false, .bool false, .bool false, .bool false, .bool false, .bool false, .bool false, .bool false, .bool false, .bool false, .bool false, .bool false, .bool false, .bool false, .bool false, .bool false, .bool false, .bool false, .bool false, .bool false, .bool false, .bool false, .bool false, .bool false, .bool false, .bool false, .bool false, .bool false, .bool false, .bool false, .bool false, .bool false, .bool false, .bool false, .bool false, .bool false, .bool false, .bool false, .bool false, .bool false, .bool false, .bool false, .bool false, .bool false, .bool false, .bool false, .bool false, .bool false, .bool false, .bool false, .bool false, .bool false, .bool false, .bool false, .bool false, .bool false, .bool false, .bool false, .bool false, .bool false, .bool false, .bool false, .bool false, .bool false, .bool false, .bool false, .bool false, .bool false, .bool false, .bool false, .bool false, .bool false, .bool false, .bool false, .bool false, .bool false, .bool false, .bool false, .bool false, .bool false, .bool false, .bool false, .bool false, .bool false, .bool false, .bool false, .bool false, .bool false, .bool false, .bool false, .bool false, .bool false, .bool false, .bool false, .bool false, .bool false, .bool false, .bool false, .bool false, .bool false, .bool false, .bool false, .bool false, .bool false, .bool false, .bool false, .bool false, .bool false, .bool false, .bool false, .bool false, .bool false, .bool false, .bool false, .bool false, .bool false, .bool false, .bool false, .bool false, .bool false, .bool false, .bool false, .bool false, .bool false, .bool false, .bool false, .bool false, .bool false, .bool false, .bool false, .bool false, .bool false, .bool false, .bool false, .bool false, .bool false, .bool false, .bool false, .bool false, .bool false, .bool false, .bool false, .bool false, .bool false, .bool false, .bool false, .bool false, .bool false, .bool false, .bool false, .bool false, .bool false, .bool false, .bool false, .bool false, .bool false, .bool false, .bool false, .bool false, .bool false, .bool false, .bool false, .bool false, .bool false, .bool false, .bool false, .bool false, .bool false, .bool false, .bool false, .bool false, .bool false, .bool false, .bool false, .bool false, .bool false, .bool false, .bool false, .bool false] := by kernel_rfl
attribute [go_sem] Tryz.underlying124
@[go_sem] theorem gd124 : Tryz.prog.eqGuardType Tryz.prog.depth 124 = false := by kernel_rfl
@[go_sem] theorem sz125 : szOf Tryz.prog 125 = some 256 := by kernel_rfl
@[go_sem] theorem ag125 : aggT Tryz.prog 125 = true := by kernel_rfl
@[go_sem] theorem by125 : Tryz.prog.bytesOf 125 = 256 := by kernel_rfl
@[go_sem] theorem un125 : (Tryz.prog.underlying 125).isNone = false := by kernel_rfl
@[go_sem] theorem zo125 : zerosOf Tryz.prog 125 = some [.bool false, .bool false, .bool false, .bool false, .bool false, .bool false, .bool false, .bool false, .bool false, .bool false, .bool false, .bool false, .bool false, .bool false, .bool false, .bool false, .bool false, .bool false, .bool false, .bool false, .bool false, .bool false, .bool false, .bool false, .bool false, .bool false, .bool false, .bool false, .bool false, .bool false, .bool false, .bool false, .bool false, .bool false, .bool false, .bool false, .bool false, .bool false, .bool false, .bool false, .bool false, .bool false, .bool false, .bool false, .bool false, .bool false, .bool false, .bool false, .bool false, .bool false, .bool false, .bool false, .bool false, .bool false, .bool false, .bool false, .bool false, .bool false, .bool false, .bool false, .bool false, .bool false, .bool false, .bool false, .bool false, .bool false, .bool false, .bool false, .bool false, .bool false, .bool false, .bool false, .bool false, .bool false, .bool false, .bool false, .bool false, .bool false, .bool false, .bool false, .bool false, .bool false, .bool false, .bool false, .bool false, .bool false, .bool false, .bool false, .bool false, .bool false, .bool false, .bool false, .bool false, .bool false, .bool false, .bool false, .bool false, .bool false, .bool false, .bool false, .bool false, .bool false, .bool false, .bool false, .bool false, .bool false, .bool false, .bool false, .bool false, .bool false, .bool false, .bool false, .bool false, .bool false, .bool false, .bool false, .bool false, .bool false, .bool false, .bool false, .bool false, .bool false, .bool false, .bool false, .bool false, .bool false, .bool false, .bool false, .bool false, .bool false, .bool false, .bool false, .bool false, .bool false, .bool false, .bool false, .bool false, .bool false, .bool false, .bool false, .bool false, .bool false, .bool false, .bool false, .bool false, .bool false, .bool false, .bool false, .bool false, .bool false, .bool false, .bool false, .bool false, .bool false, .bool false, .bool false, .bool false, .bool false, .bool false, .bool false, .bool false, .bool false, .bool false, .bool false, .bool false, .bool false, .bool false, .bool false, .bool false, .bool false, .bool false, .bool false, .bool false, .bool false, .bool false, .bool false, .bool false, .bool false, .bool false, .bool false, .bool false, .bool false, .bool false, .bool false, .bool false, .bool false, .bool false, .bool false, .bool false, .bool false, .bool false, .bool false, .bool false, .bool false, .bool false, .bool false, .bool false, .bool false, .bool false, .bool false, .bool false, .bool false, .bool false, .bool false, .bool false, .bool false, .bool false, .bool false, .bool false, .bool false, .bool false, .bool false, .bool false, .bool false, .bool false, .bool false, .bool false, .bool false, .bool false, .bool false, .bool false, .bool false, .bool false, .bool false, .bool false, .bool false, .bool false, .bool false, .bool false, .bool false, .bool false, .bool false, .bool false, .bool false, .bool false, .bool false, .bool false, .bool false, .bool false, .bool false, .bool false, .bool false, .bool false, .bool false, .bool false, .bool false, .bool false, .bool false, .bool false, .bool false, .bool false, .bool false, .bool false, .bool false, .bool false, .bool false] := by kernel_rfl
attribute [go_sem] Tryz.underlying125
@[go_sem] theorem gd125 : Tryz.prog.eqGuardType Tryz.prog.depth 125 = false := by kernel_rfl
@[go_sem] theorem sz129 : szOf Tryz.prog 129 = some 1 := by kernel_rfl
@[go_sem] theorem ag129 : aggT Tryz.prog 129 = false := by kernel_rfl
@[go_sem] theorem by129 : Tryz.prog.bytesOf 129 = 8 := by kernel_rfl
@[go_sem] theorem un129 : (Tryz.prog.underlying 129).isNone = false := by kernel_rfl
@[go_sem] theorem zo129 : zerosOf Tryz.prog 129 = some [.nilP] := by kernel_rfl
attribute [go_sem] Tryz.underlying129
@[go_sem] theorem sz134 : szOf Tryz.prog 134 = some 1 := by kernel_rfl
@[go_sem] theorem ag134 : aggT Tryz.prog 134 = false := by kernel_rfl
@[go_sem] theorem by134 : Tryz.prog.bytesOf 134 = 8 := by kernel_rfl
@[go_sem] theorem un134 : (Tryz.prog.underlying 134).isNone = false := by kernel_rfl
@[go_sem] theorem zo134 : zerosOf Tryz.prog 134 = some [.nilP] := by kernel_rfl
attribute [go_sem] Tryz.underlying134
@[go_sem] theorem sz138 : szOf Tryz.prog 138 = some 20 := by kernel_rfl
@[go_sem] theorem ag138 : aggT Tryz.prog 138 = true := by kernel_rfl
@[go_sem] theorem by138 : Tryz.prog.bytesOf 138 = 160 := by kernel_rfl
@[go_sem] theorem un138 : (Tryz.prog.underlying 138).isNone = false := by kernel_rfl
@[go_sem] theorem zo138 : zerosOf Tryz.prog 138 = some [.int .u64 0, .int .u64 0, .int .u64 0, .int .u64 0, .int .u64 0, .int .u64 0, .int .u64 0, .int .u64 0, .int .u64 0, .int .u64 0, .int .u64 0, .int .u64 0, .int .u64 0, .int .u64 0, .int .u64 0, .int .u64 0, .int .u64 0, .int .u64 0, .int .u64 0, .int .u64 0] := by kernel_rfl
attribute [go_sem] Tryz.underlying138
@[go_sem] theorem gd138 : Tryz.prog.eqGuardType Tryz.prog.depth 138 = false := by kernel_rfl
@[go_sem] theorem sz139 : szOf Tryz.prog 139 = some 1 := by kernel_rfl
@[go_sem] theorem ag139 : aggT Tryz.prog 139 = false := by kernel_rfl
@[go_sem] theorem by139 : Tryz.prog.bytesOf 139 = 4 := by kernel_rfl
@[go_sem] theorem un139 : (Tryz.prog.underlying 139).isNone = false := by kernel_rfl
@[go_sem] theorem zo139 : zerosOf Tryz.prog 139 = some [.int .u32 0] := by kernel_rfl
attribute [go_sem] Tryz.underlying139
@[go_sem] theorem eql139 (d : Nat) (k : IntKind) (a b : Int) : eqV Tryz.prog (d + 1) 139 (.int k a) (.int k b) = some (a == b) := eqV_int Tryz.underlying139 d k a b
@[go_sem] theorem sz140 : szOf Tryz.prog 140 = some 65 := by kernel_rfl
@[go_sem] theorem ag140 : aggT Tryz.prog 140 = true := by kernel_rfl
@[go_sem] theorem by140 : Tryz.prog.bytesOf 140 = 65 := by kernel_rfl
@[go_sem] theorem un140 : (Tryz.prog.underlying 140).isNone = false := by kernel_rfl
@[go_sem] theorem zo140 : zerosOf Tryz.prog 140 = some [.int .u8 0, .int .u8 0, .int .u8 0, .int .u8 0, .int .u8 0, .int .u8 0, .int .u8 0, .int .u8 0, .int .u8 0, .int .u8 0, .int .u8 0, .int .u8 0, .int .u8 0, .int .u8 0, .int .u8 0, .int .u8 0, .int .u8 0, .int .u8 0, .int .u8 0, .int .u8 0, .int .u8 0, .int .u8 0, .int .u8 0, .int .u8 0, .int .u8 0, .int .u8 0, .int .u8 0, .int .u8 0, .int .u8 0, .int .u8 0, .int .u8 0, .int .u8 0, .int .u8 0, .int .u8 0, .int .u8 0, .int .u8 0, .int .u8 0, .int .u8 0, .int .u8 0, .int .u8 0, .int .u8 0, .int .u8 0, .int .u8 0, .int .u8 0, .int .u8 0, .int .u8 0, .int .u8 0, .int .u8 0, .int .u8 0, .int .u8 0, .int .u8 0, .int .u8 0, .int .u8 0, .int .u8 0, .int .u8 0, .int .u8 0, .int .u8 0, .int .u8 0, .int .u8 0, .int .u8 0, .int .u8 0, .int .u8 0, .int .u8 0, .int .u8 0, .int .u8 0] := by kernel_rfl
attribute [go_sem] Tryz.underlying140
@[go_sem] theorem gd140 : Tryz.prog.eqGuardType Tryz.prog.depth 140 = false := by kernel_rfl
@[go_sem] theorem eqb140 (l1 l2 : List UInt8) (h1 : l1.length = 65) (h2 : l2.length = 65) (d : Nat) : eqV Tryz.prog (d + 2) 140 (.agg (l1.map byteC)) (.agg (l2.map byteC)) = some (l1 == l2) := eqV_bytes Tryz.underlying140 Tryz.underlying5 (by kernel_rfl) (by kernel_rfl) l1 l2 h1 h2
@[go_sem] theorem sz160 : szOf Tryz.prog 160 = some 64 := by kernel_rfl
@[go_sem] theorem ag160 : aggT Tryz.prog 160 = true := by kernel_rfl
@[go_sem] theorem by160 : Tryz.prog.bytesOf 160 = 64 := by kernel_rfl
@[go_sem] theorem un160 : (Tryz.prog.underlying 160).isNone = false := by kernel_rfl
@[go_sem] theorem zo160 : zerosOf Tryz.prog 160 = some [.int .u8 0, .int .u8 0, .int .u8 0, .int .u8 0, .int .u8 0, .int .u8 0, .int .u8 0, .int .u8 0, .int .u8 0, .int .u8 0, .int .u8 0, .int .u8 0, .int .u8 0, .int .u8 0, .int .u8 0, .int .u8 0, .int .u8 0, .int .u8 0, .int .u8 0, .int .u8 0, .int .u8 0, .int .u8 0, .int .u8 0, .int .u8 0, .int .u8 0, .int .u8 0, .int .u8 0, .int .u8 0, .int .u8 0, .int .u8 0, .int .u8 0, .int .u8 0, .int .u8 0, .int .u8 0, .int .u8 0, .int .u8 0, .int .u8 0, .int .u8 0, .int .u8 0, .int .u8 0, .int .u8 0, .int .u8 0, .int .u8 0, .int .u8 0, .int .u8 0, .int .u8 0, .int .u8 0, .int .u8 0, .int .u8 0, .int .u8 0, .int .u8 0, .int .u8 0, .int .u8 0, .int .u8 0, .int .u8 0, .int .u8 0, .int .u8 0, .int .u8 0, .int .u8 0, .int .u8 0, .int .u8 0, .int .u8 0, .int .u8 0, .int .u8 0] := by kernel_rfl
attribute [go_sem] Tryz.underlying160
@[go_sem] theorem gd160 : Tryz.prog.eqGuardType Tryz.prog.depth 160 = false := by kernel_rfl
@[go_sem] theorem eqb160 (l1 l2 : List UInt8) (h1 : l1.length = 64) (h2 : l2.length = 64) (d : Nat) : eqV Tryz.prog (d + 2) 160 (.agg (l1.map byteC)) (.agg (l2.map byteC)) = some (l1 == l2) := eqV_bytes Tryz.underlying160 Tryz.underlying5 (by kernel_rfl) (by kernel_rfl) l1 l2 h1 h2
@[go_sem] theorem eqz160 (l1 : List UInt8) (h1 : l1.length = 64) (d : Nat) : eqV Tryz.prog (d + 2) 160 (.agg (l1.map byteC)) (.agg [.int .u8 0, .int .u8 0, .int .u8 0, .int .u8 0, .int .u8 0, .int .u8 0, .int .u8 0, .int .u8 0, .int .u8 0, .int .u8 0, .int .u8 0, .int .u8 0, .int .u8 0, .int .u8 0, .int .u8 0, .int .u8 0, .int .u8 0, .int .u8 0, .int .u8 0, .int .u8 0, .int .u8 0, .int .u8 0, .int .u8 0, .int .u8 0, .int .u8 0, .int .u8 0, .int .u8 0, .int .u8 0, .int .u8 0, .int .u8 0, .int .u8 0, .int .u8 0, .int .u8 0, .int .u8 0, .int .u8 0, .int .u8 0, .int .u8 0, .int .u8 0, .int .u8 0, .int .u8 0, .int .u8 0, .int .u8 0, .int .u8 0, .int .u8 0, .int .u8 0, .int .u8 0, .int .u8 0, .int .u8 0, .int .u8 0, .int .u8 0, .int .u8 0, .int .u8 0, .int .u8 0, .int .u8 0, .int .u8 0, .int .u8 0, .int .u8 0, .int .u8 0, .int .u8 0, .int .u8 0, .int .u8 0, .int .u8 0, .int .u8 0, .int .u8 0]) = some (l1 == List.replicate 64 0) := eqb160 l1 (List.replicate 64 0) h1 rfl d
@[go_sem] theorem sz161 : szOf Tryz.prog 161 = some 256 := by kernel_rfl
@[go_sem] theorem ag161 : aggT Tryz.prog 161 = true := by kernel_rfl
@[go_sem] theorem by161 : Tryz.prog.bytesOf 161 = 256 := by kernel_rfl
@[go_sem] theorem un161 : (Tryz.prog.underlying 161).isNone = false := by kernel_rfl
@[go_sem] theorem zo161 : zerosOf Tryz.prog 161 = some [.int .u8 0, .int .u8 0, .int .u8 0, .int .u8 0, .int .u8 0, .int .u8 0, .int .u8 0, .int .u8 0, .int .u8 0, .int .u8 0, .int .u8 0, .int .u8 0, .int .u8 0, .int .u8 0, .int .u8 0, .int .u8 0, .int .u8 0, .int .u8 0, .int .u8 0, .int .u8 0, .int .u8 0, .int .u8 0, .int .u8 0, .int .u8 0, .int .u8 0, .int .u8 0, .int .u8 0, .int .u8 0, .int .u8 0, .int .u8 0, .int .u8 0, .int .u8 0, .int .u8 0, .int .u8 0, .int .u8 0, .int .u8 0, .int .u8 0, .int .u8 0, .int .u8 0, .int .u8 0, .int .u8 0, .int .u8 0, .int .u8 0, .int .u8 0, .int .u8 0, .int .u8 0, .int .u8 0, .int .u8 0, .int .u8 0, .int .u8 0, .int .u8 0, .int .u8 0, .int .u8 0, .int .u8 0, .int .u8 0, .int .u8 0, .int .u8 0, .int .u8 0, .int .u8 0, .int .u8 0, .int .u8 0, .int .u8 0, .int .u8 0, .int .u8 0, .int .u8 0, .int .u8 0, .int .u8 0, .int .u8 0, .int .u8 0, .int .u8 0, .int .u8 0, .int .u8 0, .int .u8 0, .int .u8 0, .int .u8 0, .int .u8 0, .int .u8 0, .int .u8 0, .int .u8 0, .int .u8 0, .int .u8 0, .int .u8 0, .int .u8 0, .int .u8 0, .int .u8 0, .int .u8 0, .int .u8 0, .int .u8 0, .int .u8 0, .int .u8 0, .int .u8 0, .int .u8 0, .int .u8 0, .int .u8 0, .int .u8 0, .int .u8 0, .int .u8 0, .int .u8 0, .int .u8 0, .int .u8 0, .int .u8 0, .int .u8 0, .int .u8 0, .int .u8 0, .int .u8 0, .int .u8 0, .int .u8 0, .int .u8 0, .int .u8 0, .int .u8 0, .int .u8 0, .int .u8 0, .int .u8 0, .int .u8 0, .int .u8 0, .int .u8 0, .int .u8 0, .int .u8 0, .int .u8 0, .int .u8 0, .int .u8 0, .int .u8 0, .int .u8 0, .int .u8 0, .int .u8 0, .int .u8 0, .int .u8 0, .int .u8 0, .int .u8 0, .int .u8 0, .int .u8 0, .int .u8 0, .int .u8 0, .int .u8 0, .int .u8 0, .int .u8 0, .int .u8 0, .int .u8 0, .int .u8 0, .int .u8 0, .int .u8 0, .int .u8 0, .int .u8 0, .int .u8 0, .int .u8 0, .int .u8 0, .int .u8 0, .int .u8 0, .int .u8 0, .int .u8 0, .int .u8 0, .int .u8 0, .int .u8 0, .int .u8 0, .int .u8 0, .int .u8 0, .int .u8 0, .int .u8 0, .int .u8 0, .int .u8 0, .int .u8 0, .int .u8 0, .int .u8 0, .int .u8 0, .int .u8 0, .int .u8 0, .int .u8 0, .int .u8 0, .int .u8 0, .int .u8 0, .int .u8 0, .int .u8 0, .int .u8 0, .int .u8 0, .int .u8 0, .int .u8 0, .int .u8 0, .int .u8 0, .int .u8 0, .int .u8 0, .int .u8 0, .int .u8 0, .int .u8 0, .int .u8 0, .int .u8 0, .int .u8 0, .int .u8 0, .int .u8 0, .int .u8 0, .int .u8 0, .int .u8 0, .int .u8 0, .int .u8 0, .int .u8 0, .int .u8 0, .int .u8 0, .int .u8 0, .int .u8 0, .int .u8 0, .int .u8 0, .int .u8 0, .int .u8 0, .int .u8 0, .int .u8 0, .int .u8 0, .int .u8 0, .int .u8 0, .int .u8 0, .int .u8 0, .int .u8 0, .int .u8 0, .int .u8 0, .int .u8 0, .int .u8 0, .int .u8 0, .int .u8 0, .int .u8 0, .int .u8 0, .int .u8 0, .int .u8 0, .int .u8 0, .int .u8 0, .int .u8 0, .int .u8 0, .int .u8 0, .int .u8 0, .int .u8 0, .int .u8 0, .int .u8 0, .int .u8 0, .int .u8 0, .int .u8 0, .int .u8 0, .int .u8 0, .int .u8 0, .int .u8 0, .int .u8 0, .int .u8 0, .int .u8 0, .int .u8 0, .int .u8 0, .int .u8 0, .int .u8 0, .int .u8 0, .int .u8 0, .int .u8 0, .int .u8 0, .int .u8 0, .int .u8 0, .int .u8 0, .int .u8 0, .int .u8 0, .int .u8 0, .int .u8 0, .int .u8 0, .int .u8 0] := by kernel_rfl
attribute [go_sem] Tryz.underlying161
@[go_sem] theorem gd161 : Tryz.prog.eqGuardType Tryz.prog.depth 161 = false := by kernel_rfl
@[go_sem] theorem eqb161 (l1 l2 : List UInt8) (h1 : l1.length = 256) (h2 : l2.length = 256) (d : Nat) : eqV Tryz.prog (d + 2) 161 (.agg (l1.map byteC)) (.agg (l2.map byteC)) = some (l1 == l2) := eqV_bytes Tryz.underlying161 Tryz.underlying5 (by kernel_rfl) (by kernel_rfl) l1 l2 h1 h2
@[go_sem] theorem sz162 : szOf Tryz.prog 162 = some 2 := by kernel_rfl
@[go_sem] theorem ag162 : aggT Tryz.prog 162 = true := by kernel_rfl
@[go_sem] theorem by162 : Tryz.prog.bytesOf 162 = 2 := by kernel_rfl
@[go_sem] theorem un162 : (Tryz.prog.underlying 162).isNone = false := by kernel_rfl
@[go_sem] theorem zo162 : zerosOf Tryz.prog 162 = some [.int .u8 0, .int .u8 0] := by kernel_rfl
attribute [go_sem] Tryz.underlying162
@[go_sem] theorem gd162 : Tryz.prog.eqGuardType Tryz.prog.depth 162 = false := by kernel_rfl
@[go_sem] theorem st162 : Tryz.prog.stoodInHeld 162 = false := by kernel_rfl
@[go_sem] theorem eqs162 (d : Nat) (xs ys : List CV) : eqV Tryz.prog (d + 1) 162 (.agg xs) (.agg ys) = eqF Tryz.prog d xs ys (match Tryz.prog.underlying 162 with | some (.struct fs) => fs.toList | _ => []) := by rw [Tryz.underlying162]; exact eqV_struct Tryz.underlying162 st162 d xs ys
@[go_sem] theorem sz163 : szOf Tryz.prog 163 = some 2 := by kernel_rfl
@[go_sem] theorem ag163 : aggT Tryz.prog 163 = true := by kernel_rfl
@[go_sem] theorem by163 : Tryz.prog.bytesOf 163 = 2 := by kernel_rfl
@[go_sem] theorem un163 : (Tryz.prog.underlying 163).isNone = false := by kernel_rfl
@[go_sem] theorem zo163 : zerosOf Tryz.prog 163 = some [.int .u8 0, .int .u8 0] := by kernel_rfl
attribute [go_sem] Tryz.underlying163
@[go_sem] theorem gd163 : Tryz.prog.eqGuardType Tryz.prog.depth 163 = false := by kernel_rfl
@[go_sem] theorem st163 : Tryz.prog.stoodInHeld 163 = false := by kernel_rfl
@[go_sem] theorem eqs163 (d : Nat) (xs ys : List CV) : eqV Tryz.prog (d + 1) 163 (.agg xs) (.agg ys) = eqF Tryz.prog d xs ys (match Tryz.prog.underlying 163 with | some (.struct fs) => fs.toList | _ => []) := by rw [Tryz.underlying163]; exact eqV_struct Tryz.underlying163 st163 d xs ys
@[go_sem] theorem sz164 : szOf Tryz.prog 164 = some 32 := by kernel_rfl
@[go_sem] theorem ag164 : aggT Tryz.prog 164 = true := by kernel_rfl
@[go_sem] theorem by164 : Tryz.prog.bytesOf 164 = 32 := by kernel_rfl
@[go_sem] theorem un164 : (Tryz.prog.underlying 164).isNone = false := by kernel_rfl
@[go_sem] theorem zo164 : zerosOf Tryz.prog 164 = some [.int .u8 0, .int .u8 0, .int .u8 0, .int .u8 0, .int .u8 0, .int .u8 0, .int .u8 0, .int .u8 0, .int .u8 0, .int .u8 0, .int .u8 0, .int .u8 0, .int .u8 0, .int .u8 0, .int .u8 0, .int .u8 0, .int .u8 0, .int .u8 0, .int .u8 0, .int .u8 0, .int .u8 0, .int .u8 0, .int .u8 0, .int .u8 0, .int .u8 0, .int .u8 0, .int .u8 0, .int .u8 0, .int .u8 0, .int .u8 0, .int .u8 0, .int .u8 0] := by kernel_rfl
attribute [go_sem] Tryz.underlying164
@[go_sem] theorem gd164 : Tryz.prog.eqGuardType Tryz.prog.depth 164 = false := by kernel_rfl
@[go_sem] theorem sz166 : szOf Tryz.prog 166 = some 4 := by kernel_rfl
@[go_sem] theorem ag166 : aggT Tryz.prog 166 = true := by kernel_rfl
@[go_sem] theorem by166 : Tryz.prog.bytesOf 166 = 40 := by kernel_rfl
@[go_sem] theorem un166 : (Tryz.prog.underlying 166).isNone = false := by kernel_rfl
@[go_sem] theorem zo166 : zerosOf Tryz.prog 166 = some [.nilP, .nilP, .nilP, .str []] := by kernel_rfl
attribute [go_sem] Tryz.underlying166
@[go_sem] theorem gd166 : Tryz.prog.eqGuardType Tryz.prog.depth 166 = false := by kernel_rfl
@[go_sem] theorem sz167 : szOf Tryz.prog 167 = some 4 := by kernel_rfl
@[go_sem] theorem ag167 : aggT Tryz.prog 167 = true := by kernel_rfl
@[go_sem] theorem by167 : Tryz.prog.bytesOf 167 = 40 := by kernel_rfl
@[go_sem] theorem un167 : (Tryz.prog.underlying 167).isNone = false := by kernel_rfl
@[go_sem] theorem zo167 : zerosOf Tryz.prog 167 = some [.nilP, .nilP, .nilP, .str []] := by kernel_rfl
attribute [go_sem] Tryz.underlying167
@[go_sem] theorem gd167 : Tryz.prog.eqGuardType Tryz.prog.depth 167 = false := by kernel_rfl
@[go_sem] theorem sz168 : szOf Tryz.prog 168 = some 0 := by kernel_rfl
@[go_sem] theorem ag168 : aggT Tryz.prog 168 = true := by kernel_rfl
@[go_sem] theorem by168 : Tryz.prog.bytesOf 168 = 0 := by kernel_rfl
@[go_sem] theorem un168 : (Tryz.prog.underlying 168).isNone = false := by kernel_rfl
@[go_sem] theorem zo168 : zerosOf Tryz.prog 168 = some [] := by kernel_rfl
attribute [go_sem] Tryz.underlying168
@[go_sem] theorem gd168 : Tryz.prog.eqGuardType Tryz.prog.depth 168 = false := by kernel_rfl
@[go_sem] theorem sz169 : szOf Tryz.prog 169 = some 0 := by kernel_rfl
@[go_sem] theorem ag169 : aggT Tryz.prog 169 = true := by kernel_rfl
@[go_sem] theorem by169 : Tryz.prog.bytesOf 169 = 0 := by kernel_rfl
@[go_sem] theorem un169 : (Tryz.prog.underlying 169).isNone = false := by kernel_rfl
@[go_sem] theorem zo169 : zerosOf Tryz.prog 169 = some [] := by kernel_rfl
attribute [go_sem] Tryz.underlying169
@[go_sem] theorem gd169 : Tryz.prog.eqGuardType Tryz.prog.depth 169 = false := by kernel_rfl
@[go_sem] theorem sz170 : szOf Tryz.prog 170 = some 0 := by kernel_rfl
@[go_sem] theorem ag170 : aggT Tryz.prog 170 = true := by kernel_rfl
@[go_sem] theorem by170 : Tryz.prog.bytesOf 170 = 0 := by kernel_rfl
@[go_sem] theorem un170 : (Tryz.prog.underlying 170).isNone = false := by kernel_rfl
@[go_sem] theorem zo170 : zerosOf Tryz.prog 170 = some [] := by kernel_rfl
attribute [go_sem] Tryz.underlying170
@[go_sem] theorem gd170 : Tryz.prog.eqGuardType Tryz.prog.depth 170 = false := by kernel_rfl
@[go_sem] theorem sz172 : szOf Tryz.prog 172 = some 1 := by kernel_rfl
@[go_sem] theorem ag172 : aggT Tryz.prog 172 = false := by kernel_rfl
@[go_sem] theorem by172 : Tryz.prog.bytesOf 172 = 1 := by kernel_rfl
@[go_sem] theorem un172 : (Tryz.prog.underlying 172).isNone = false := by kernel_rfl
@[go_sem] theorem zo172 : zerosOf Tryz.prog 172 = some [.int .u8 0] := by kernel_rfl
attribute [go_sem] Tryz.underlying172
@[go_sem] theorem eql172 (d : Nat) (k : IntKind) (a b : Int) : eqV Tryz.prog (d + 1) 172 (.int k a) (.int k b) = some (a == b) := eqV_int Tryz.underlying172 d k a b
@[go_sem] theorem sz173 : szOf Tryz.prog 173 = some 1 := by kernel_rfl
@[go_sem] theorem ag173 : aggT Tryz.prog 173 = false := by kernel_rfl
@[go_sem] theorem by173 : Tryz.prog.bytesOf 173 = 1 := by kernel_rfl
@[go_sem] theorem un173 : (Tryz.prog.underlying 173).isNone = false := by kernel_rfl
@[go_sem] theorem zo173 : zerosOf Tryz.prog 173 = some [.int .u8 0] := by kernel_rfl
attribute [go_sem] Tryz.underlying173
@[go_sem] theorem eql173 (d : Nat) (k : IntKind) (a b : Int) : eqV Tryz.prog (d + 1) 173 (.int k a) (.int k b) = some (a == b) := eqV_int Tryz.underlying173 d k a b
@[go_sem] theorem sz175 : szOf Tryz.prog 175 = some 1 := by kernel_rfl
@[go_sem] theorem ag175 : aggT Tryz.prog 175 = false := by kernel_rfl
@[go_sem] theorem by175 : Tryz.prog.bytesOf 175 = 4 := by kernel_rfl
@[go_sem] theorem un175 : (Tryz.prog.underlying 175).isNone = false := by kernel_rfl
@[go_sem] theorem zo175 : zerosOf Tryz.prog 175 = some [.int .i32 0] := by kernel_rfl
attribute [go_sem] Tryz.underlying175
@[go_sem] theorem eql175 (d : Nat) (k : IntKind) (a b : Int) : eqV Tryz.prog (d + 1) 175 (.int k a) (.int k b) = some (a == b) := eqV_int Tryz.underlying175 d k a b
@[go_sem] theorem sz176 : szOf Tryz.prog 176 = some 1 := by kernel_rfl
@[go_sem] theorem ag176 : aggT Tryz.prog 176 = false := by kernel_rfl
@[go_sem] theorem by176 : Tryz.prog.bytesOf 176 = 4 := by kernel_rfl
@[go_sem] theorem un176 : (Tryz.prog.underlying 176).isNone = false := by kernel_rfl
@[go_sem] theorem zo176 : zerosOf Tryz.prog 176 = some [.int .i32 0] := by kernel_rfl
attribute [go_sem] Tryz.underlying176
@[go_sem] theorem eql176 (d : Nat) (k : IntKind) (a b : Int) : eqV Tryz.prog (d + 1) 176 (.int k a) (.int k b) = some (a == b) := eqV_int Tryz.underlying176 d k a b
@[go_sem] theorem sz177 : szOf Tryz.prog 177 = some 11 := by kernel_rfl
@[go_sem] theorem ag177 : aggT Tryz.prog 177 = true := by kernel_rfl
@[go_sem] theorem by177 : Tryz.prog.bytesOf 177 = 48 := by kernel_rfl
@[go_sem] theorem un177 : (Tryz.prog.underlying 177).isNone = false := by kernel_rfl
@[go_sem] theorem zo177 : zerosOf Tryz.prog 177 = some [.int .u64 0, .int .u64 0, .int .u32 0, .int .u8 0, .int .u8 0, .int .u8 0, .int .u8 0, .nilF, .nilP, .int .i32 0, .int .i32 0] := by kernel_rfl
attribute [go_sem] Tryz.underlying177
@[go_sem] theorem gd177 : Tryz.prog.eqGuardType Tryz.prog.depth 177 = false := by kernel_rfl
@[go_sem] theorem sz178 : szOf Tryz.prog 178 = some 11 := by kernel_rfl
@[go_sem] theorem ag178 : aggT Tryz.prog 178 = true := by kernel_rfl
@[go_sem] theorem by178 : Tryz.prog.bytesOf 178 = 48 := by kernel_rfl
@[go_sem] theorem un178 : (Tryz.prog.underlying 178).isNone = false := by kernel_rfl
@[go_sem] theorem zo178 : zerosOf Tryz.prog 178 = some [.int .u64 0, .int .u64 0, .int .u32 0, .int .u8 0, .int .u8 0, .int .u8 0, .int .u8 0, .nilF, .nilP, .int .i32 0, .int .i32 0] := by kernel_rfl
attribute [go_sem] Tryz.underlying178
@[go_sem] theorem gd178 : Tryz.prog.eqGuardType Tryz.prog.depth 178 = false := by kernel_rfl
theorem ca3 : callable Tryz.prog 3 = true := by kernel_rfl
theorem ca5 : callable Tryz.prog 5 = true := by kernel_rfl
theorem ca6 : callable Tryz.prog 6 = true := by kernel_rfl
theorem ca7 : callable Tryz.prog 7 = true := by kernel_rfl
theorem ca12 : callable Tryz.prog 12 = true := by kernel_rfl
theorem ca13 : callable Tryz.prog 13 = true := by kernel_rfl
theorem ca14 : callable Tryz.prog 14 = true := by kernel_rfl
theorem ca15 : callable Tryz.prog 15 = true := by kernel_rfl
theorem ca16 : callable Tryz.prog 16 = true := by kernel_rfl
theorem ca17 : callable Tryz.prog 17 = true := by kernel_rfl
theorem ca29 : callable Tryz.prog 29 = true := by kernel_rfl
theorem ca33 : callable Tryz.prog 33 = true := by kernel_rfl
theorem ca34 : callable Tryz.prog 34 = true := by kernel_rfl
theorem ca35 : callable Tryz.prog 35 = true := by kernel_rfl
theorem ca36 : callable Tryz.prog 36 = true := by kernel_rfl
theorem ca42 : callable Tryz.prog 42 = true := by kernel_rfl
theorem ca43 : callable Tryz.prog 43 = true := by kernel_rfl
theorem ca44 : callable Tryz.prog 44 = true := by kernel_rfl
theorem ca45 : callable Tryz.prog 45 = true := by kernel_rfl
theorem ca52 : callable Tryz.prog 52 = true := by kernel_rfl
theorem ca56 : callable Tryz.prog 56 = true := by kernel_rfl
theorem ca57 : callable Tryz.prog 57 = true := by kernel_rfl
theorem ca58 : callable Tryz.prog 58 = true := by kernel_rfl
theorem ca59 : callable Tryz.prog 59 = true := by kernel_rfl
theorem ca60 : callable Tryz.prog 60 = true := by kernel_rfl
theorem ca65 : callable Tryz.prog 65 = true := by kernel_rfl
theorem ca66 : callable Tryz.prog 66 = true := by kernel_rfl
theorem ca67 : callable Tryz.prog 67 = true := by kernel_rfl
theorem ca68 : callable Tryz.prog 68 = true := by kernel_rfl
theorem ca73 : callable Tryz.prog 73 = true := by kernel_rfl
theorem ca79 : callable Tryz.prog 79 = true := by kernel_rfl
theorem ca80 : callable Tryz.prog 80 = true := by kernel_rfl
theorem ca81 : callable Tryz.prog 81 = true := by kernel_rfl
theorem ca85 : callable Tryz.prog 85 = true := by kernel_rfl
theorem ca86 : callable Tryz.prog 86 = true := by kernel_rfl
theorem ca87 : callable Tryz.prog 87 = true := by kernel_rfl
theorem ca94 : callable Tryz.prog 94 = true := by kernel_rfl
theorem ca95 : callable Tryz.prog 95 = true := by kernel_rfl
theorem ca101 : callable Tryz.prog 101 = true := by kernel_rfl
theorem ca105 : callable Tryz.prog 105 = true := by kernel_rfl
theorem ca112 : callable Tryz.prog 112 = true := by kernel_rfl
theorem ca118 : callable Tryz.prog 118 = true := by kernel_rfl
end Go.Proofs.YtdceppjoipoohaaGreatDoor
end
section
namespace Go.Proofs.YtdceppjoipoohaaGreatDoor
open Go Go.Sy
set_option linter.all false
set_option maxRecDepth 100000
set_option maxHeartbeats 4000000
theorem int_byte (b : UInt8) : CV.int .u8 (b.toNat : Int) = byteC b := rfl
theorem bytes_mid (l m : List UInt8) (x : UInt8) : l.map byteC ++ byteC x :: m.map byteC = (l ++ x :: m).map byteC := by simp
section
variable {α : Type} {l m : List α} {n : Nat}
theorem take_all (h : l.length ≤ n) : l.take n = l := List.take_of_length_le h
theorem drop_all (h : l.length ≤ n) : l.drop n = [] := List.drop_eq_nil_of_le h
theorem take_app (h : l.length ≤ n) : (l ++ m).take n = l ++ m.take (n - l.length) := by rw [List.take_append, List.take_of_length_le h]
theorem drop_app (h : l.length ≤ n) : (l ++ m).drop n = m.drop (n - l.length) := by rw [List.drop_append, List.drop_eq_nil_of_le h, List.nil_append]
theorem take_app' (h : n ≤ l.length) : (l ++ m).take n = l.take n := List.take_append_of_le_length h
theorem drop_app' (h : n ≤ l.length) : (l ++ m).drop n = l.drop n ++ m := List.drop_append_of_le_length h
end
section
variable {l : List UInt8} {m : List CV} {n : Nat}
theorem take_bapp (h : l.length ≤ n) : (l.map byteC ++ m).take n = l.map byteC ++ m.take (n - l.length) := by rw [take_app (by simpa using h)]; simp
theorem drop_bapp (h : l.length ≤ n) : (l.map byteC ++ m).drop n = m.drop (n - l.length) := by rw [drop_app (by simpa using h)]; simp
theorem take_bapp' (h : n ≤ l.length) : (l.map byteC ++ m).take n = (l.take n).map byteC := by rw [take_app' (by simpa using h), bytes_take]
theorem drop_bapp' (h : n ≤ l.length) : (l.map byteC ++ m).drop n = (l.drop n).map byteC ++ m := by rw [drop_app' (by simpa using h), bytes_drop]
end
attribute [go_sem] take_all drop_all take_app drop_app take_app' drop_app' take_bapp drop_bapp take_bapp' drop_bapp'
theorem fdivL0 (a : Int) : a.fdiv 1 = a / 1 := Int.fdiv_eq_ediv_of_nonneg a (by omega)
theorem fdivL1 (a : Int) : a.fdiv 2 = a / 2 := Int.fdiv_eq_ediv_of_nonneg a (by omega)
theorem fdivL2 (a : Int) : a.fdiv 4 = a / 4 := Int.fdiv_eq_ediv_of_nonneg a (by omega)
theorem fdivL3 (a : Int) : a.fdiv 8 = a / 8 := Int.fdiv_eq_ediv_of_nonneg a (by omega)
theorem fdivL4 (a : Int) : a.fdiv 16 = a / 16 := Int.fdiv_eq_ediv_of_nonneg a (by omega)
theorem fdivL5 (a : Int) : a.fdiv 32 = a / 32 := Int.fdiv_eq_ediv_of_nonneg a (by omega)
theorem fdivL6 (a : Int) : a.fdiv 64 = a / 64 := Int.fdiv_eq_ediv_of_nonneg a (by omega)
theorem fdivL7 (a : Int) : a.fdiv 128 = a / 128 := Int.fdiv_eq_ediv_of_nonneg a (by omega)
theorem fdivL8 (a : Int) : a.fdiv 256 = a / 256 := Int.fdiv_eq_ediv_of_nonneg a (by omega)
theorem fdivL9 (a : Int) : a.fdiv 512 = a / 512 := Int.fdiv_eq_ediv_of_nonneg a (by omega)
theorem fdivL10 (a : Int) : a.fdiv 1024 = a / 1024 := Int.fdiv_eq_ediv_of_nonneg a (by omega)
theorem fdivL11 (a : Int) : a.fdiv 2048 = a / 2048 := Int.fdiv_eq_ediv_of_nonneg a (by omega)
theorem fdivL12 (a : Int) : a.fdiv 4096 = a / 4096 := Int.fdiv_eq_ediv_of_nonneg a (by omega)
theorem fdivL13 (a : Int) : a.fdiv 8192 = a / 8192 := Int.fdiv_eq_ediv_of_nonneg a (by omega)
theorem fdivL14 (a : Int) : a.fdiv 16384 = a / 16384 := Int.fdiv_eq_ediv_of_nonneg a (by omega)
theorem fdivL15 (a : Int) : a.fdiv 32768 = a / 32768 := Int.fdiv_eq_ediv_of_nonneg a (by omega)
theorem fdivL16 (a : Int) : a.fdiv 65536 = a / 65536 := Int.fdiv_eq_ediv_of_nonneg a (by omega)
theorem fdivL24 (a : Int) : a.fdiv 16777216 = a / 16777216 := Int.fdiv_eq_ediv_of_nonneg a (by omega)
theorem fdivL31 (a : Int) : a.fdiv 2147483648 = a / 2147483648 := Int.fdiv_eq_ediv_of_nonneg a (by omega)
theorem fdivL32 (a : Int) : a.fdiv 4294967296 = a / 4294967296 := Int.fdiv_eq_ediv_of_nonneg a (by omega)
theorem fdivL40 (a : Int) : a.fdiv 1099511627776 = a / 1099511627776 := Int.fdiv_eq_ediv_of_nonneg a (by omega)
theorem fdivL48 (a : Int) : a.fdiv 281474976710656 = a / 281474976710656 := Int.fdiv_eq_ediv_of_nonneg a (by omega)
theorem fdivL56 (a : Int) : a.fdiv 72057594037927936 = a / 72057594037927936 := Int.fdiv_eq_ediv_of_nonneg a (by omega)
theorem fdivL62 (a : Int) : a.fdiv 4611686018427387904 = a / 4611686018427387904 := Int.fdiv_eq_ediv_of_nonneg a (by omega)
theorem fdivL63 (a : Int) : a.fdiv 9223372036854775808 = a / 9223372036854775808 := Int.fdiv_eq_ediv_of_nonneg a (by omega)
attribute [go_sem] fdivL0 fdivL1 fdivL2 fdivL3 fdivL4 fdivL5 fdivL6 fdivL7 fdivL8 fdivL9 fdivL10 fdivL11 fdivL12 fdivL13 fdivL14 fdivL15 fdivL16 fdivL24 fdivL31 fdivL32 fdivL40 fdivL48 fdivL56 fdivL62 fdivL63
theorem head_bytes {l : List UInt8} (h : 0 < l.length) : (l.map byteC).head? = some (byteC l[0]) := by cases l with | nil => simp at h | cons x l => rfl
attribute [go_sem] head_bytes
theorem toNat_ediv' {a b : Int} (ha : 0 ≤ a) (hb : 0 ≤ b) : (a / b).toNat = a.toNat / b.toNat := by
  obtain ⟨m, rfl⟩ := Int.eq_ofNat_of_zero_le ha; obtain ⟨n, rfl⟩ := Int.eq_ofNat_of_zero_le hb
  rw [← Int.natCast_ediv, Int.toNat_natCast, Int.toNat_natCast, Int.toNat_natCast]
theorem toNat_emod' {a b : Int} (ha : 0 ≤ a) (hb : 0 ≤ b) : (a % b).toNat = a.toNat % b.toNat := by
  obtain ⟨m, rfl⟩ := Int.eq_ofNat_of_zero_le ha; obtain ⟨n, rfl⟩ := Int.eq_ofNat_of_zero_le hb
  rw [← Int.natCast_emod, Int.toNat_natCast, Int.toNat_natCast, Int.toNat_natCast]
theorem toNat_succ' {a : Int} (ha : 0 ≤ a) : (a + 1).toNat = a.toNat + 1 := by omega
attribute [go_sem] toNat_ediv' toNat_emod' toNat_succ'
theorem i64_or_nat (a b : Nat) (ha : a < 9223372036854775808) (hb : b < 9223372036854775808) : bits .or .i64 (a : Int) (b : Int) = ((a ||| b : Nat) : Int) := by
  have hx : a ||| b < 2 ^ 63 := Nat.or_lt_two_pow (by omega) (by omega)
  show IntKind.i64.wrap ((BitVec.ofInt 64 (a : Int) ||| BitVec.ofInt 64 (b : Int)).toNat : Int) = _
  rw [BitVec.toNat_or, ofInt_u64 a (by omega), ofInt_u64 b (by omega), wi64 (by omega)]
theorem i64_and_nat (a b : Nat) (ha : a < 9223372036854775808) (hb : b < 9223372036854775808) : bits .and .i64 (a : Int) (b : Int) = ((a &&& b : Nat) : Int) := by
  have hx : a &&& b < 2 ^ 63 := Nat.and_lt_two_pow _ (by omega)
  show IntKind.i64.wrap ((BitVec.ofInt 64 (a : Int) &&& BitVec.ofInt 64 (b : Int)).toNat : Int) = _
  rw [BitVec.toNat_and, ofInt_u64 a (by omega), ofInt_u64 b (by omega), wi64 (by omega)]
theorem div_pow_lt {n : Nat} (m : Nat) {b : Int} (h : (n : Int) < b) : 0 ≤ (n : Int) / 2 ^ m ∧ (n : Int) / 2 ^ m < b := by
  have : ((n : Int) / 2 ^ m) = ((n / 2 ^ m : Nat) : Int) := by rw [Int.natCast_ediv]; simp
  have h2 := Nat.div_le_self n (2 ^ m)
  rw [this]; generalize n / 2 ^ m = d at h2 ⊢; omega
theorem and1_u8 {x : Int} (h : 0 ≤ x ∧ x < 256) : bits .and .u8 x 1 = x % 2 := by
  obtain ⟨n, rfl⟩ := Int.eq_ofNat_of_zero_le h.1
  have := u8_and_nat n 1 (by omega) (by omega)
  rw [show ((1 : Nat) : Int) = 1 from rfl] at this
  rw [this, show (1 : Nat) = 2 ^ 1 - 1 from rfl, Nat.and_two_pow_sub_one_eq_mod]; omega
theorem and1_i64 {x : Int} (h : 0 ≤ x ∧ x < 9223372036854775808) : bits .and .i64 x 1 = x % 2 := by
  obtain ⟨n, rfl⟩ := Int.eq_ofNat_of_zero_le h.1
  have := i64_and_nat n 1 (by omega) (by omega)
  rw [show ((1 : Nat) : Int) = 1 from rfl] at this
  rw [this, show (1 : Nat) = 2 ^ 1 - 1 from rfl, Nat.and_two_pow_sub_one_eq_mod]; omega
def Grow (B0 : List Box) (sz : Nat) (c : CV) (B : List Box) (n : Nat) (cells : List CV) : Prop :=
  cells.length = n * sz ∧ ((n = 0 ∧ (c = .nilS ∨ c = .lst 0 [] true) ∧ B = B0) ∨ (0 < n ∧ ∃ m, c = .view B0.length 0 n sz false ∧ B = B0 ++ [⟨cells, m⟩]))
theorem Grow.nil (B0 : List Box) (sz : Nat) : Grow B0 sz .nilS B0 0 [] := ⟨by simp, .inl ⟨rfl, .inl rfl, rfl⟩⟩
theorem Grow.fz {B0 : List Box} {sz : Nat} {c : CV} {B : List Box} {n : Nat} {cells : List CV} (h : Grow B0 sz c B n cells) (k : Nat) (hs : omap (fz true true B k) cells = some cells) : fz true true B (k + 1) c = some (.lst n cells false) := by
  obtain ⟨hl, ⟨rfl, rfl | rfl, rfl⟩ | ⟨h0, m, rfl, rfl⟩⟩ := h
  · have : cells = [] := List.eq_nil_of_length_eq_zero (by simpa using hl)
    subst this; simp [fz_nilS]
  · have : cells = [] := List.eq_nil_of_length_eq_zero (by simpa using hl)
    subst this; simp [fz_lst, omap_nil]
  · rw [fz_view]
    simp only [List.getElem?_concat_length, List.drop_zero]
    rw [List.take_of_length_le (by omega), hs]; simp
theorem Grow.view {B0 : List Box} {sz : Nat} {c : CV} {B : List Box} {n : Nat} {cells : List CV} (h : Grow B0 sz c B n cells) (hn : 0 < n) : ∃ m, c = .view B0.length 0 n sz false ∧ B = B0 ++ [⟨cells, m⟩] := by
  obtain ⟨_, ⟨rfl, _⟩ | ⟨_, m, h1, h2⟩⟩ := h
  · omega
  · exact ⟨m, h1, h2⟩
theorem omap_app {f : CV → Option CV} : ∀ {a b : List CV}, omap f (a ++ b) = (omap f a).bind fun x => (omap f b).map (x ++ ·)
  | [], b => by rw [List.nil_append, omap_nil]; cases omap f b <;> rfl
  | c :: a, b => by rw [List.cons_append, omap_two, omap_two, omap_app]; cases f c <;> cases omap f a <;> cases omap f b <;> rfl
attribute [go_sem] omap_app
abbrev GrowB (B0 : List Box) (c : CV) (B : List Box) (l : List UInt8) : Prop := Grow B0 1 c B l.length (l.map byteC)
theorem GrowB.fz {B0 : List Box} {c : CV} {B : List Box} {l : List UInt8} (h : GrowB B0 c B l) (k : Nat) : Go.Sy.fz true true B (k + 2) c = some (lb l) := Grow.fz h (k + 1) (omap_bytes l)
end Go.Proofs.YtdceppjoipoohaaGreatDoor
end
section
namespace Go.Proofs.YtdceppjoipoohaaGreatDoor
open Go Go.Sy
set_option linter.all false
set_option maxRecDepth 100000
set_option maxHeartbeats 4000000
section
variable {L X : List Box} {n i : Nat} {y : Box}
theorem bx_get0 (h : L.length = n) : (L ++ X)[n]? = X[0]? := by subst h; rw [List.getElem?_append_right (Nat.le_refl _), Nat.sub_self]
theorem bx_get (h : L.length = n) : (L ++ X)[n + i]? = X[i]? := by subst h; rw [List.getElem?_append_right (by omega), Nat.add_sub_cancel_left]
theorem bx_getL (h : n < L.length) : (L ++ X)[n]? = L[n]? := List.getElem?_append_left h
theorem bx_set0 (h : L.length = n) : (L ++ X).set n y = L ++ X.set 0 y := by subst h; rw [List.set_append_right _ _ (Nat.le_refl _), Nat.sub_self]
theorem bx_set (h : L.length = n) : (L ++ X).set (n + i) y = L ++ X.set i y := by subst h; rw [List.set_append_right _ _ (by omega), Nat.add_sub_cancel_left]
theorem bx_setL (h : n < L.length) : (L ++ X).set n y = L.set n y ++ X := List.set_append_left _ _ h
theorem bx_self (h : n < L.length) : (L.set n y)[n]? = some y := List.getElem?_set_self h
end
theorem bx_pack {B : List Box} {β : Nat} {b : Box} (hB : B[β]? = some b) : (∀ X, (B ++ X)[β]? = some b) ∧ (∀ X y, (B ++ X).set β y = B.set β y ++ X) ∧ (∀ y, (B.set β y)[β]? = some y) ∧ (∀ y X, (B.set β y ++ X)[β]? = some y) ∧ (∀ y z X, (B.set β y ++ X).set β z = B.set β z ++ X) ∧
    (∀ y X, (B.set β y ++ X)[B.length]? = X[0]?) ∧ (∀ y X i, (B.set β y ++ X)[B.length + i]? = X[i]?) ∧ (∀ y z X, (B.set β y ++ X).set B.length z = B.set β y ++ X.set 0 z) ∧ (∀ y z X i, (B.set β y ++ X).set (B.length + i) z = B.set β y ++ X.set i z) ∧
    (∀ X, (B ++ X)[B.length]? = X[0]?) ∧ (∀ X i, (B ++ X)[B.length + i]? = X[i]?) ∧ (∀ z X, (B ++ X).set B.length z = B ++ X.set 0 z) ∧ (∀ z X i, (B ++ X).set (B.length + i) z = B ++ X.set i z) := by
  have h := (List.getElem?_eq_some_iff.1 hB).1
  refine ⟨fun X => by rw [bx_getL h, hB], fun X y => bx_setL h, fun y => bx_self h, fun y X => by rw [bx_getL (by simpa using h), bx_self h], fun y z X => by rw [bx_setL (by simpa using h), List.set_set],
    fun y X => bx_get0 (by simp), fun y X i => bx_get (by simp), fun y z X => bx_set0 (by simp), fun y z X i => bx_set (by simp), fun X => bx_get0 rfl, fun X i => bx_get rfl, fun z X => bx_set0 rfl, fun z X i => bx_set rfl⟩
def Hid (p : Prop) : Prop := p
def Cells {α : Type} (f : α → List CV) (z : Nat) (cs : List CV) (L : List α) : Prop := ∀ (i : Nat) (h : i < L.length), i * z + z ≤ cs.length ∧ (cs.drop (i * z)).take z = f L[i]
structure Row {α : Type} (f : α → List CV) (z : Nat) (B : List Box) (s : CV) (L : List α) : Prop where
  small : L.length < 1099511627776
  at_ : ∃ cs, Cells f z cs L ∧ ((∃ fl, s = .lst L.length cs fl) ∨ (∃ b cap, s = .cview b 0 L.length cap z ∧ B[b]? = some ⟨cs, false⟩) ∨ ∃ b fl m, s = .view b 0 L.length z fl ∧ B[b]? = some ⟨cs, m⟩)
structure Kept (b : Nat) (B W : List Box) : Prop where
  len : B.length ≤ W.length
  same : ∀ β, β ≠ b → β < B.length → W[β]? = B[β]?
theorem Kept.refl (b : Nat) (B : List Box) : Kept b B B := ⟨Nat.le_refl _, fun _ _ _ => rfl⟩
theorem Kept.set {b : Nat} {B W : List Box} (h : Kept b B W) (x : Box) : Kept b B (W.set b x) := ⟨by have := h.len; rw [List.length_set]; exact this, fun β h1 h2 => by rw [List.getElem?_set_ne (Ne.symm h1), h.same β h1 h2]⟩
end Go.Proofs.YtdceppjoipoohaaGreatDoor
end
section
namespace Go.Sy
set_option linter.all false
open Go.RowKit (Below)
section
variable {P : Program} {I I' : Nat → Nat → Prop} {μ : List (List Place)} {w w' : World} {B : List Box}
theorem acall_of_calls {f : FuncId} {args : List CV} {Q : CV → Prop} (hc : callable P f = true)
    (h : ∀ (I : Nat → Nat → Prop) (μ : List (List Place)) (w : World) (vs : List Value), TabsOk I w → (∀ b j, I b j → b < w.heap.size) → R I μ w false args vs →
      Calls P f vs.toArray w fun e w' => ∃ c v, e = .returned v ∧ Q c ∧ Below w.heap.size w w' ∧ V (fun b j => I b j ∨ (w.heap.size ≤ b ∧ b < w'.heap.size)) μ w' c v) :
    ACall P f args B fun c B' => Q c ∧ B' = B :=
  ⟨hc, fun N I μ w vs hB hv => (h I μ w vs hB.tabs hB.imm hv).mono fun e w' ⟨c, v, he, hq, hbel, hval⟩ => by
    obtain ⟨g1, g2, g3⟩ := hB.behind (I2 := fun b j => I b j ∨ (w.heap.size ≤ b ∧ b < w'.heap.size)) hbel (fun b j h => .inl h) (fun b j h => h)
    exact ⟨c, v, B, _, μ, he, ⟨hq, rfl⟩, ⟨hval, g1, g2, g3⟩⟩⟩
theorem R.str_cons {one : Bool} {s : List UInt8} {cs : List CV} {vs : List Value} (h : R I μ w one (.str s :: cs) vs) : ∃ ws, vs = .string ⟨s.toArray⟩ :: ws ∧ R I μ w one cs ws := by
  cases h with
  | str s tl => exact ⟨_, rfl, tl⟩
theorem R.int_cons {one : Bool} {k : IntKind} {n : Int} {cs : List CV} {vs : List Value} (h : R I μ w one (.int k n :: cs) vs) : ∃ ws, vs = .int k n :: ws ∧ R I μ w one cs ws := by
  cases h with
  | int k n tl => exact ⟨_, rfl, tl⟩
theorem R.none {one : Bool} {vs : List Value} (h : R I μ w one [] vs) : vs = [] := by cases h; rfl
theorem Below.same : Below w.heap.size w w := ⟨rfl, rfl, rfl, Nat.le_refl _, fun _ _ => rfl⟩
theorem Below.drewN' (n : Nat) : Below w.heap.size w (w.drewN n) := ⟨rfl, rfl, rfl, Nat.le_refl _, fun _ _ => rfl⟩
end
end Go.Sy
end
section
namespace Go.Proofs.YtdceppjoipoohaaGreatDoor
open Go Go.Sy
set_option linter.all false
set_option maxRecDepth 100000
set_option maxHeartbeats 4000000
def blank (c : UInt8) : Bool := c == 32 || c == 9
def setS : List Bool := (List.range 256).map fun i => i == 32 || i == 9
def setS1 : List Bool := (List.range 256).map fun i => i == 32
def trimLs (l : List UInt8) : List UInt8 := l.dropWhile blank
def trimR (l : List UInt8) : List UInt8 := (l.reverse.dropWhile blank).reverse
def trimT (l : List UInt8) : List UInt8 := trimLs (trimR l)
def strLen (c : CV) : Nat := match c with | .str l => l.length | _ => 0
theorem trimR_snoc (l : List UInt8) (c : UInt8) : trimR (l ++ [c]) = if blank c then trimR l else l ++ [c] := by
  rw [trimR, List.reverse_append, List.reverse_singleton, List.singleton_append, List.dropWhile_cons]
  split
  · rfl
  · simp
theorem trimL_cons (l : List UInt8) (c : UInt8) : trimLs (c :: l) = if blank c then trimLs l else c :: l := by
  rw [trimLs, List.dropWhile_cons]; rfl
theorem setS_get (c : UInt8) : (setS.map CV.bool)[c.toNat]'(by have := c.toNat_lt; simp [setS]; omega) = .bool (blank c) := by
  simp only [setS, List.getElem_map, List.getElem_range]
  congr 1
  rw [blank, Bool.eq_iff_iff]
  simp only [Bool.or_eq_true, beq_iff_eq, ← UInt8.toNat_inj]
  exact Iff.rfl
theorem contains_at {B : List Box} {β : Nat} {args : List CV} {c : UInt8} (ha : Is args [.ptr β 0, byteC c]) (hB : B[β]? = some ⟨setS.map CV.bool, false⟩) : ACall Tryz.prog 101 args B fun r B' => r = .bool (blank c) ∧ B' = B := by
  have ha : args = _ := ha
  subst ha
  have hl : (setS.map CV.bool).length = 256 := by simp [setS]
  have hg : ∀ h, (setS.map CV.bool)[c.toNat]'h = .bool (blank c) := fun _ => setS_get c
  have hc : c.toNat < 256 := c.toNat_lt
  have hby : byteC c = .int .u8 (c.toNat : Int) := rfl
  generalize setS.map CV.bool = X at *
  refine acall_intro mixed Tryz.func101 rfl ca101 (by kernel_rfl) (by rw [Tryz.ntmps101]; simp) ?_
  repeat' (first | (with_reducible (first | apply w_seq | apply w_region | apply w_block | apply w_skip | apply w_exit | apply w_ret | apply w_then | apply w_then_exit | apply w_then_ret | apply w_in | apply w_in_here | apply w_in_ret | apply w_round | apply o_nil | apply d_nil)) | ((with_reducible (first | apply w_in_exit)); rfl) | ((with_reducible (first | apply w_draw)); rfl) | ((first | ((with_reducible (first | apply o_op | apply d_op | apply q_op)); rfl; rfl) | ((with_reducible (first | apply w_cond | apply w_end | apply w_return))) | ((with_reducible (first | apply o_guard | apply d_guard | apply q_guard)); rfl)); all_goals (first | ((with_reducible show Is _ _); ((try simp (disch := first | omega | (simp only [yA, yB, yC, yD, yE] <;> omega) | fail) [go_sem, yF, yG, yH, *, if_pos, if_neg, -List.map_take, -List.map_drop, -List.map_append, -List.map_reverse]); exact rfl)) | ((fail_if_success (with_reducible show Is _ _)); (first | ((with_reducible refine fun (hc : (_ : Bool) = _) => ?_); (try simp only [xA, xB, xC, xD, xE, xF, xG, xH, reduceCtorEq, xI, xJ, xK, xL, xM, xN, xO, xP, xQ, xR] at hc); (try (have hx : True := hc; clear hx hc)); (try (exfalso; omega)); (try (with_reducible (exact absurd hc (by assumption)))); (try (with_reducible (exact absurd (by assumption) hc)))) | ((fail_if_success (with_reducible show ACall _ _ _ _ _)); (try ((with_reducible show _ ∨ _); first | exact .inl rfl | (refine .inr ⟨rfl, ?_, ?_⟩; (focus (repeat (first | exact trivial | refine ⟨.inl rfl, ?_⟩ | refine ⟨.inr rfl, ?_⟩))); (first | exact trivial | exact rfl))))))))))
  exact ⟨rfl, rfl⟩
theorem ascii_at {B : List Box} {args : List CV} (ha : Is args [.str [32, 9]]) : ACall Tryz.prog 79 args B fun c B' => c = .tup [.agg (setS.map CV.bool), .bool true] ∧ B' = B ++ [⟨setS.map CV.bool, false⟩] := by
  have ha : args = _ := ha
  subst ha
  have e0 : repC [CV.bool false] 256 = (List.replicate 256 false).map CV.bool := by
    rw [List.map_replicate]; rfl
  have e1 : ((List.replicate 256 false).map CV.bool).take 32 ++ CV.bool true :: ((List.replicate 256 false).map CV.bool).drop 33 = setS1.map CV.bool := by rfl
  have e2 : (setS1.map CV.bool).take 9 ++ CV.bool true :: (setS1.map CV.bool).drop 10 = setS.map CV.bool := by rfl
  have l0 : ((List.replicate 256 false).map CV.bool).length = 256 := by simp
  have l1 : (setS1.map CV.bool).length = 256 := by simp [setS1]
  have l2 : (setS.map CV.bool).length = 256 := by simp [setS]
  obtain ⟨X0, hX0⟩ : ∃ X0, (List.replicate 256 false).map CV.bool = X0 := ⟨_, rfl⟩
  rw [hX0] at e0 e1 l0
  generalize setS1.map CV.bool = X1 at *
  generalize setS.map CV.bool = X2 at *
  refine acall_intro mixed Tryz.func79 rfl ca79 (by kernel_rfl) (by rw [Tryz.ntmps79]; simp) ?_
  repeat' (first | (with_reducible (first | apply w_seq | apply w_region | apply w_block | apply w_skip | apply w_exit | apply w_ret | apply w_then | apply w_then_exit | apply w_then_ret | apply w_in | apply w_in_here | apply w_in_ret | apply w_round | apply o_nil | apply d_nil)) | ((with_reducible (first | apply w_in_exit)); rfl) | ((with_reducible (first | apply w_draw)); rfl) | ((first | ((with_reducible (first | apply o_op | apply d_op | apply q_op)); rfl; rfl) | ((with_reducible (first | apply w_cond | apply w_end | apply w_return))) | ((with_reducible (first | apply o_guard | apply d_guard | apply q_guard)); rfl)); all_goals (first | ((with_reducible show Is _ _); ((try simp (disch := first | omega | (simp only [yA, yB, yC, yD, yE] <;> omega) | fail) [go_sem, yF, yG, yH, *, if_pos, if_neg, -List.map_take, -List.map_drop, -List.map_append, -List.map_reverse]); exact rfl)) | ((fail_if_success (with_reducible show Is _ _)); (first | ((with_reducible refine fun (hc : (_ : Bool) = _) => ?_); (try simp only [xA, xB, xC, xD, xE, xF, xG, xH, reduceCtorEq, xI, xJ, xK, xL, xM, xN, xO, xP, xQ, xR] at hc); (try (have hx : True := hc; clear hx hc)); (try (exfalso; omega)); (try (with_reducible (exact absurd hc (by assumption)))); (try (with_reducible (exact absurd (by assumption) hc)))) | ((fail_if_success (with_reducible show ACall _ _ _ _ _)); (try ((with_reducible show _ ∨ _); first | exact .inl rfl | (refine .inr ⟨rfl, ?_, ?_⟩; (focus (repeat (first | exact trivial | refine ⟨.inl rfl, ?_⟩ | refine ⟨.inr rfl, ?_⟩))); (first | exact trivial | exact rfl))))))))))
  refine w_loop (fun fr B' => (fr 0 = .str [32, 9] ∧ fr 2 = .ptr B.length 0) ∧ ((fr 4 = .int .i64 0 ∧ B' = B ++ [⟨X0, false⟩]) ∨ (fr 4 = .int .i64 1 ∧ B' = B ++ [⟨X1, false⟩]) ∨ (fr 4 = .int .i64 2 ∧ B' = B ++ [⟨X2, false⟩]))) (fun fr _ => 2 - natOf (fr 4)) ?_ ?_
  · exact ⟨⟨by (simp (disch := omega) [go_sem, *]) <;> (try omega), by (simp (disch := omega) [go_sem, *]) <;> (try omega)⟩, .inl ⟨by (simp (disch := omega) [go_sem, *]) <;> (try omega), by rw [← hX0]; rfl⟩⟩
  clear hX0
  rintro fr B' ⟨⟨h0, h2⟩, h⟩
  have hx : byteC 32 = .int .u8 32 := rfl
  have hy : byteC 9 = .int .u8 9 := rfl
  rcases h with ⟨h4, rfl⟩ | ⟨h4, rfl⟩ | ⟨h4, rfl⟩
  · repeat' (first | (with_reducible (first | apply w_seq | apply w_region | apply w_block | apply w_skip | apply w_exit | apply w_ret | apply w_then | apply w_then_exit | apply w_then_ret | apply w_in | apply w_in_here | apply w_in_ret | apply w_round | apply o_nil | apply d_nil)) | ((with_reducible (first | apply w_in_exit)); rfl) | ((with_reducible (first | apply w_draw)); rfl) | ((first | ((with_reducible (first | apply o_op | apply d_op | apply q_op)); rfl; rfl) | ((with_reducible (first | apply w_cond | apply w_end | apply w_return))) | ((with_reducible (first | apply o_guard | apply d_guard | apply q_guard)); rfl)); all_goals (first | ((with_reducible show Is _ _); ((try simp (disch := first | omega | (simp only [yA, yB, yC, yD, yE] <;> omega) | fail) [go_sem, yF, yG, yH, *, bx_get0, bx_get, bx_set0, bx_set, if_pos, if_neg, -List.map_take, -List.map_drop, -List.map_append, -List.map_reverse]); exact rfl)) | ((fail_if_success (with_reducible show Is _ _)); (first | ((with_reducible refine fun (hc : (_ : Bool) = _) => ?_); (try simp only [xA, xB, xC, xD, xE, xF, xG, xH, reduceCtorEq, xI, xJ, xK, xL, xM, xN, xO, xP, xQ, xR] at hc); (try (have hx : True := hc; clear hx hc)); (try (exfalso; omega)); (try (with_reducible (exact absurd hc (by assumption)))); (try (with_reducible (exact absurd (by assumption) hc)))) | ((fail_if_success (with_reducible show ACall _ _ _ _ _)); (try ((with_reducible show _ ∨ _); first | exact .inl rfl | (refine .inr ⟨rfl, ?_, ?_⟩; (focus (repeat (first | exact trivial | refine ⟨.inl rfl, ?_⟩ | refine ⟨.inr rfl, ?_⟩))); (first | exact trivial | exact rfl))))))))))
    exact ⟨⟨⟨by (simp (disch := omega) [go_sem, *]) <;> (try omega), by (simp (disch := omega) [go_sem, *]) <;> (try omega)⟩, .inr (.inl ⟨by (simp (disch := omega) [go_sem, *]) <;> (try omega), rfl⟩)⟩, by (simp (disch := omega) [go_sem, *]) <;> (try omega)⟩
  · repeat' (first | (with_reducible (first | apply w_seq | apply w_region | apply w_block | apply w_skip | apply w_exit | apply w_ret | apply w_then | apply w_then_exit | apply w_then_ret | apply w_in | apply w_in_here | apply w_in_ret | apply w_round | apply o_nil | apply d_nil)) | ((with_reducible (first | apply w_in_exit)); rfl) | ((with_reducible (first | apply w_draw)); rfl) | ((first | ((with_reducible (first | apply o_op | apply d_op | apply q_op)); rfl; rfl) | ((with_reducible (first | apply w_cond | apply w_end | apply w_return))) | ((with_reducible (first | apply o_guard | apply d_guard | apply q_guard)); rfl)); all_goals (first | ((with_reducible show Is _ _); ((try simp (disch := first | omega | (simp only [yA, yB, yC, yD, yE] <;> omega) | fail) [go_sem, yF, yG, yH, *, bx_get0, bx_get, bx_set0, bx_set, if_pos, if_neg, -List.map_take, -List.map_drop, -List.map_append, -List.map_reverse]); exact rfl)) | ((fail_if_success (with_reducible show Is _ _)); (first | ((with_reducible refine fun (hc : (_ : Bool) = _) => ?_); (try simp only [xA, xB, xC, xD, xE, xF, xG, xH, reduceCtorEq, xI, xJ, xK, xL, xM, xN, xO, xP, xQ, xR] at hc); (try (have hx : True := hc; clear hx hc)); (try (exfalso; omega)); (try (with_reducible (exact absurd hc (by assumption)))); (try (with_reducible (exact absurd (by assumption) hc)))) | ((fail_if_success (with_reducible show ACall _ _ _ _ _)); (try ((with_reducible show _ ∨ _); first | exact .inl rfl | (refine .inr ⟨rfl, ?_, ?_⟩; (focus (repeat (first | exact trivial | refine ⟨.inl rfl, ?_⟩ | refine ⟨.inr rfl, ?_⟩))); (first | exact trivial | exact rfl))))))))))
    exact ⟨⟨⟨by (simp (disch := omega) [go_sem, *]) <;> (try omega), by (simp (disch := omega) [go_sem, *]) <;> (try omega)⟩, .inr (.inr ⟨by (simp (disch := omega) [go_sem, *]) <;> (try omega), rfl⟩)⟩, by (simp (disch := omega) [go_sem, *]) <;> (try omega)⟩
  · repeat' (first | (with_reducible (first | apply w_seq | apply w_region | apply w_block | apply w_skip | apply w_exit | apply w_ret | apply w_then | apply w_then_exit | apply w_then_ret | apply w_in | apply w_in_here | apply w_in_ret | apply w_round | apply o_nil | apply d_nil)) | ((with_reducible (first | apply w_in_exit)); rfl) | ((with_reducible (first | apply w_draw)); rfl) | ((first | ((with_reducible (first | apply o_op | apply d_op | apply q_op)); rfl; rfl) | ((with_reducible (first | apply w_cond | apply w_end | apply w_return))) | ((with_reducible (first | apply o_guard | apply d_guard | apply q_guard)); rfl)); all_goals (first | ((with_reducible show Is _ _); ((try simp (disch := first | omega | (simp only [yA, yB, yC, yD, yE] <;> omega) | fail) [go_sem, yF, yG, yH, *, bx_get0, bx_get, bx_set0, bx_set, if_pos, if_neg, -List.map_take, -List.map_drop, -List.map_append, -List.map_reverse]); exact rfl)) | ((fail_if_success (with_reducible show Is _ _)); (first | ((with_reducible refine fun (hc : (_ : Bool) = _) => ?_); (try simp only [xA, xB, xC, xD, xE, xF, xG, xH, reduceCtorEq, xI, xJ, xK, xL, xM, xN, xO, xP, xQ, xR] at hc); (try (have hx : True := hc; clear hx hc)); (try (exfalso; omega)); (try (with_reducible (exact absurd hc (by assumption)))); (try (with_reducible (exact absurd (by assumption) hc)))) | ((fail_if_success (with_reducible show ACall _ _ _ _ _)); (try ((with_reducible show _ ∨ _); first | exact .inl rfl | (refine .inr ⟨rfl, ?_, ?_⟩; (focus (repeat (first | exact trivial | refine ⟨.inl rfl, ?_⟩ | refine ⟨.inr rfl, ?_⟩))); (first | exact trivial | exact rfl))))))))))
    all_goals exact ⟨rfl, rfl⟩
theorem trimRight_at {B : List Box} {β : Nat} {args : List CV} {s : List UInt8} (ha : Is args [.str s, .ptr β 0]) (hs : s.length < 4611686018427387904) (hB : B[β]? = some ⟨setS.map CV.bool, false⟩) : ACall Tryz.prog 81 args B fun r B' => r = .str (trimR s) ∧ B' = B := by
  have ha : args = _ := ha
  subst ha
  refine acall_intro mixed Tryz.func81 rfl ca81 (by kernel_rfl) (by rw [Tryz.ntmps81]; simp) ?_
  repeat' (first | (with_reducible (first | apply w_seq | apply w_region | apply w_block | apply w_skip | apply w_exit | apply w_ret | apply w_then | apply w_then_exit | apply w_then_ret | apply w_in | apply w_in_here | apply w_in_ret | apply w_round | apply o_nil | apply d_nil)) | ((with_reducible (first | apply w_in_exit)); rfl) | ((with_reducible (first | apply w_draw)); rfl) | ((first | ((with_reducible (first | apply o_op | apply d_op | apply q_op)); rfl; rfl) | ((with_reducible (first | apply w_cond | apply w_end | apply w_return))) | ((with_reducible (first | apply o_guard | apply d_guard | apply q_guard)); rfl)); all_goals (first | ((with_reducible show Is _ _); ((try simp (disch := first | omega | (simp only [yA, yB, yC, yD, yE] <;> omega) | fail) [go_sem, yF, yG, yH, *, if_pos, if_neg, -List.map_take, -List.map_drop, -List.map_append, -List.map_reverse]); exact rfl)) | ((fail_if_success (with_reducible show Is _ _)); (first | ((with_reducible refine fun (hc : (_ : Bool) = _) => ?_); (try simp only [xA, xB, xC, xD, xE, xF, xG, xH, reduceCtorEq, xI, xJ, xK, xL, xM, xN, xO, xP, xQ, xR] at hc); (try (have hx : True := hc; clear hx hc)); (try (exfalso; omega)); (try (with_reducible (exact absurd hc (by assumption)))); (try (with_reducible (exact absurd (by assumption) hc)))) | ((fail_if_success (with_reducible show ACall _ _ _ _ _)); (try ((with_reducible show _ ∨ _); first | exact .inl rfl | (refine .inr ⟨rfl, ?_, ?_⟩; (focus (repeat (first | exact trivial | refine ⟨.inl rfl, ?_⟩ | refine ⟨.inr rfl, ?_⟩))); (first | exact trivial | exact rfl))))))))))
  refine w_loop (fun fr B' => ∃ t : List UInt8, t.length ≤ s.length ∧ trimR t = trimR s ∧ fr 0 = .str t ∧ fr 1 = .ptr β 0 ∧ fr 4 = .str [] ∧ B' = B) (fun fr _ => strLen (fr 0)) ?_ ?_
  · exact ⟨s, by omega, rfl, by (simp (disch := omega) [go_sem, *]) <;> (try omega), by (simp (disch := omega) [go_sem, *]) <;> (try omega), by (simp (disch := omega) [go_sem, *]) <;> (try omega), rfl⟩
  rintro fr B' ⟨t, htl, ht, h0, h1, h4, rfl⟩
  by_cases hp : 0 < t.length
  · obtain ⟨u, c, rfl⟩ : ∃ u c, t = u ++ [c] := ⟨t.dropLast, t.getLast (List.length_pos_iff.1 hp), (List.dropLast_concat_getLast _).symm⟩
    have hul : (u ++ [c]).length = u.length + 1 := by simp
    have hget : ∀ h, (u ++ [c])[u.length]'h = c := fun _ => by simp
    have htk : (u ++ [c]).take u.length = u := by simp
    have hm : strLen (fr 0) = u.length + 1 := by rw [h0, strLen, hul]
    have hcn : ∀ {args : List CV}, Is args [.ptr β 0, byteC c] → ACall Tryz.prog 101 args B' fun r B'' => r = .bool (blank c) ∧ B'' = B' := fun h => contains_at h hB
    rw [trimR_snoc] at ht
    cases hb : blank c with
    | true =>
      rw [hb, if_pos rfl] at ht
      rw [hb] at hcn
      generalize u ++ [c] = t at *
      repeat' (first | (with_reducible (first | apply w_seq | apply w_region | apply w_block | apply w_skip | apply w_exit | apply w_ret | apply w_then | apply w_then_exit | apply w_then_ret | apply w_in | apply w_in_here | apply w_in_ret | apply w_round | apply o_nil | apply d_nil)) | ((with_reducible (first | apply w_in_exit)); rfl) | ((with_reducible (first | apply w_draw)); rfl) | ((first | ((with_reducible (first | apply o_op | apply d_op | apply q_op)); rfl; rfl) | ((with_reducible (first | apply w_cond | apply w_end | apply w_return))) | ((with_reducible (first | apply o_guard | apply d_guard | apply q_guard)); rfl) | ((with_reducible (first | apply o_call_eq | apply d_call | apply q_call)); rfl)); all_goals (first | ((with_reducible show Is _ _); ((try simp (disch := first | omega | (simp only [yA, yB, yC, yD, yE] <;> omega) | fail) [go_sem, yF, yG, yH, *, if_pos, if_neg, -List.map_take, -List.map_drop, -List.map_append, -List.map_reverse]); exact rfl)) | ((fail_if_success (with_reducible show Is _ _)); (first | ((with_reducible refine fun (hc : (_ : Bool) = _) => ?_); (try simp only [xA, xB, xC, xD, xE, xF, xG, xH, reduceCtorEq, xI, xJ, xK, xL, xM, xN, xO, xP, xQ, xR] at hc); (try (have hx : True := hc; clear hx hc)); (try (exfalso; omega)); (try (with_reducible (exact absurd hc (by assumption)))); (try (with_reducible (exact absurd (by assumption) hc)))) | ((with_reducible show ACall _ _ _ _ _); (first | ((with_reducible (first | apply hcn)) <;> (first | omega | assumption | exact rfl | ((simp (disch := first | omega | (simp only [yA, yB, yC, yD, yE] <;> omega) | fail) [go_sem, yF, yG, yH, *, -List.map_take, -List.map_drop, -List.map_append, -List.map_reverse]) <;> (first | done | omega | exact rfl)))))) | ((fail_if_success (with_reducible show ACall _ _ _ _ _)); (try ((with_reducible show _ ∨ _); first | exact .inl rfl | (refine .inr ⟨rfl, ?_, ?_⟩; (focus (repeat (first | exact trivial | refine ⟨.inl rfl, ?_⟩ | refine ⟨.inr rfl, ?_⟩))); (first | exact trivial | exact rfl))))))))))
      refine ⟨⟨u, by omega, ht, by (simp (disch := omega) [go_sem, *]) <;> (try omega), by (simp (disch := omega) [go_sem, *]) <;> (try omega), by (simp (disch := omega) [go_sem, *]) <;> (try omega), rfl⟩, ?_⟩
      rw [hm]
      simp [upd, strLen]
    | false =>
      rw [hb, if_neg (by simp)] at ht
      rw [hb] at hcn
      generalize u ++ [c] = t at *
      subst ht
      repeat' (first | (with_reducible (first | apply w_seq | apply w_region | apply w_block | apply w_skip | apply w_exit | apply w_ret | apply w_then | apply w_then_exit | apply w_then_ret | apply w_in | apply w_in_here | apply w_in_ret | apply w_round | apply o_nil | apply d_nil)) | ((with_reducible (first | apply w_in_exit)); rfl) | ((with_reducible (first | apply w_draw)); rfl) | ((first | ((with_reducible (first | apply o_op | apply d_op | apply q_op)); rfl; rfl) | ((with_reducible (first | apply w_cond | apply w_end | apply w_return))) | ((with_reducible (first | apply o_guard | apply d_guard | apply q_guard)); rfl) | ((with_reducible (first | apply o_call_eq | apply d_call | apply q_call)); rfl)); all_goals (first | ((with_reducible show Is _ _); ((try simp (disch := first | omega | (simp only [yA, yB, yC, yD, yE] <;> omega) | fail) [go_sem, yF, yG, yH, *, if_pos, if_neg, -List.map_take, -List.map_drop, -List.map_append, -List.map_reverse]); exact rfl)) | ((fail_if_success (with_reducible show Is _ _)); (first | ((with_reducible refine fun (hc : (_ : Bool) = _) => ?_); (try simp only [xA, xB, xC, xD, xE, xF, xG, xH, reduceCtorEq, xI, xJ, xK, xL, xM, xN, xO, xP, xQ, xR] at hc); (try (have hx : True := hc; clear hx hc)); (try (exfalso; omega)); (try (with_reducible (exact absurd hc (by assumption)))); (try (with_reducible (exact absurd (by assumption) hc)))) | ((with_reducible show ACall _ _ _ _ _); (first | ((with_reducible (first | apply hcn)) <;> (first | omega | assumption | exact rfl | ((simp (disch := first | omega | (simp only [yA, yB, yC, yD, yE] <;> omega) | fail) [go_sem, yF, yG, yH, *, -List.map_take, -List.map_drop, -List.map_append, -List.map_reverse]) <;> (first | done | omega | exact rfl)))))) | ((fail_if_success (with_reducible show ACall _ _ _ _ _)); (try ((with_reducible show _ ∨ _); first | exact .inl rfl | (refine .inr ⟨rfl, ?_, ?_⟩; (focus (repeat (first | exact trivial | refine ⟨.inl rfl, ?_⟩ | refine ⟨.inr rfl, ?_⟩))); (first | exact trivial | exact rfl))))))))))
      exact ⟨rfl, rfl⟩
  · have : t = [] := List.eq_nil_of_length_eq_zero (by omega)
    subst this
    repeat' (first | (with_reducible (first | apply w_seq | apply w_region | apply w_block | apply w_skip | apply w_exit | apply w_ret | apply w_then | apply w_then_exit | apply w_then_ret | apply w_in | apply w_in_here | apply w_in_ret | apply w_round | apply o_nil | apply d_nil)) | ((with_reducible (first | apply w_in_exit)); rfl) | ((with_reducible (first | apply w_draw)); rfl) | ((first | ((with_reducible (first | apply o_op | apply d_op | apply q_op)); rfl; rfl) | ((with_reducible (first | apply w_cond | apply w_end | apply w_return))) | ((with_reducible (first | apply o_guard | apply d_guard | apply q_guard)); rfl)); all_goals (first | ((with_reducible show Is _ _); ((try simp (disch := first | omega | (simp only [yA, yB, yC, yD, yE] <;> omega) | fail) [go_sem, yF, yG, yH, *, if_pos, if_neg, -List.map_take, -List.map_drop, -List.map_append, -List.map_reverse]); exact rfl)) | ((fail_if_success (with_reducible show Is _ _)); (first | ((with_reducible refine fun (hc : (_ : Bool) = _) => ?_); (try simp only [xA, xB, xC, xD, xE, xF, xG, xH, reduceCtorEq, xI, xJ, xK, xL, xM, xN, xO, xP, xQ, xR] at hc); (try (have hx : True := hc; clear hx hc)); (try (exfalso; omega)); (try (with_reducible (exact absurd hc (by assumption)))); (try (with_reducible (exact absurd (by assumption) hc)))) | ((fail_if_success (with_reducible show ACall _ _ _ _ _)); (try ((with_reducible show _ ∨ _); first | exact .inl rfl | (refine .inr ⟨rfl, ?_, ?_⟩; (focus (repeat (first | exact trivial | refine ⟨.inl rfl, ?_⟩ | refine ⟨.inr rfl, ?_⟩))); (first | exact trivial | exact rfl))))))))))
    exact ⟨by rw [← ht]; rfl, rfl⟩
theorem trimLeft_at {B : List Box} {β : Nat} {args : List CV} {s : List UInt8} (ha : Is args [.str s, .ptr β 0]) (hs : s.length < 4611686018427387904) (hB : B[β]? = some ⟨setS.map CV.bool, false⟩) : ACall Tryz.prog 80 args B fun r B' => r = .str (trimLs s) ∧ B' = B := by
  have ha : args = _ := ha
  subst ha
  refine acall_intro mixed Tryz.func80 rfl ca80 (by kernel_rfl) (by rw [Tryz.ntmps80]; simp) ?_
  repeat' (first | (with_reducible (first | apply w_seq | apply w_region | apply w_block | apply w_skip | apply w_exit | apply w_ret | apply w_then | apply w_then_exit | apply w_then_ret | apply w_in | apply w_in_here | apply w_in_ret | apply w_round | apply o_nil | apply d_nil)) | ((with_reducible (first | apply w_in_exit)); rfl) | ((with_reducible (first | apply w_draw)); rfl) | ((first | ((with_reducible (first | apply o_op | apply d_op | apply q_op)); rfl; rfl) | ((with_reducible (first | apply w_cond | apply w_end | apply w_return))) | ((with_reducible (first | apply o_guard | apply d_guard | apply q_guard)); rfl)); all_goals (first | ((with_reducible show Is _ _); ((try simp (disch := first | omega | (simp only [yA, yB, yC, yD, yE] <;> omega) | fail) [go_sem, yF, yG, yH, *, if_pos, if_neg, -List.map_take, -List.map_drop, -List.map_append, -List.map_reverse]); exact rfl)) | ((fail_if_success (with_reducible show Is _ _)); (first | ((with_reducible refine fun (hc : (_ : Bool) = _) => ?_); (try simp only [xA, xB, xC, xD, xE, xF, xG, xH, reduceCtorEq, xI, xJ, xK, xL, xM, xN, xO, xP, xQ, xR] at hc); (try (have hx : True := hc; clear hx hc)); (try (exfalso; omega)); (try (with_reducible (exact absurd hc (by assumption)))); (try (with_reducible (exact absurd (by assumption) hc)))) | ((fail_if_success (with_reducible show ACall _ _ _ _ _)); (try ((with_reducible show _ ∨ _); first | exact .inl rfl | (refine .inr ⟨rfl, ?_, ?_⟩; (focus (repeat (first | exact trivial | refine ⟨.inl rfl, ?_⟩ | refine ⟨.inr rfl, ?_⟩))); (first | exact trivial | exact rfl))))))))))
  refine w_loop (fun fr B' => ∃ t : List UInt8, t.length ≤ s.length ∧ trimLs t = trimLs s ∧ fr 0 = .str t ∧ fr 1 = .ptr β 0 ∧ fr 4 = .str [] ∧ B' = B) (fun fr _ => strLen (fr 0)) ?_ ?_
  · exact ⟨s, by omega, rfl, by (simp (disch := omega) [go_sem, *]) <;> (try omega), by (simp (disch := omega) [go_sem, *]) <;> (try omega), by (simp (disch := omega) [go_sem, *]) <;> (try omega), rfl⟩
  rintro fr B' ⟨t, htl, ht, h0, h1, h4, rfl⟩
  cases t with
  | cons c u =>
    have hul : (c :: u).length = u.length + 1 := rfl
    have hm : strLen (fr 0) = u.length + 1 := by rw [h0, strLen, hul]
    have hcn : ∀ {args : List CV}, Is args [.ptr β 0, byteC c] → ACall Tryz.prog 101 args B' fun r B'' => r = .bool (blank c) ∧ B'' = B' := fun h => contains_at h hB
    rw [trimL_cons] at ht
    have htk : u.take (u.length + 1 - 1) = u := List.take_of_length_le (by omega)
    cases hb : blank c with
    | true =>
      rw [hb, if_pos rfl] at ht
      rw [hb] at hcn
      repeat' (first | (with_reducible (first | apply w_seq | apply w_region | apply w_block | apply w_skip | apply w_exit | apply w_ret | apply w_then | apply w_then_exit | apply w_then_ret | apply w_in | apply w_in_here | apply w_in_ret | apply w_round | apply o_nil | apply d_nil)) | ((with_reducible (first | apply w_in_exit)); rfl) | ((with_reducible (first | apply w_draw)); rfl) | ((first | ((with_reducible (first | apply o_op | apply d_op | apply q_op)); rfl; rfl) | ((with_reducible (first | apply w_cond | apply w_end | apply w_return))) | ((with_reducible (first | apply o_guard | apply d_guard | apply q_guard)); rfl) | ((with_reducible (first | apply o_call_eq | apply d_call | apply q_call)); rfl)); all_goals (first | ((with_reducible show Is _ _); ((try simp (disch := first | omega | (simp only [yA, yB, yC, yD, yE] <;> omega) | fail) [go_sem, yF, yG, yH, *, if_pos, if_neg, -List.map_take, -List.map_drop, -List.map_append, -List.map_reverse]); exact rfl)) | ((fail_if_success (with_reducible show Is _ _)); (first | ((with_reducible refine fun (hc : (_ : Bool) = _) => ?_); (try simp only [xA, xB, xC, xD, xE, xF, xG, xH, reduceCtorEq, xI, xJ, xK, xL, xM, xN, xO, xP, xQ, xR] at hc); (try (have hx : True := hc; clear hx hc)); (try (exfalso; omega)); (try (with_reducible (exact absurd hc (by assumption)))); (try (with_reducible (exact absurd (by assumption) hc)))) | ((with_reducible show ACall _ _ _ _ _); (first | ((with_reducible (first | apply hcn)) <;> (first | omega | assumption | exact rfl | ((simp (disch := first | omega | (simp only [yA, yB, yC, yD, yE] <;> omega) | fail) [go_sem, yF, yG, yH, *, -List.map_take, -List.map_drop, -List.map_append, -List.map_reverse]) <;> (first | done | omega | exact rfl)))))) | ((fail_if_success (with_reducible show ACall _ _ _ _ _)); (try ((with_reducible show _ ∨ _); first | exact .inl rfl | (refine .inr ⟨rfl, ?_, ?_⟩; (focus (repeat (first | exact trivial | refine ⟨.inl rfl, ?_⟩ | refine ⟨.inr rfl, ?_⟩))); (first | exact trivial | exact rfl))))))))))
      refine ⟨⟨u, by omega, ht, by (simp (disch := omega) [go_sem, *]) <;> (try omega), by (simp (disch := omega) [go_sem, *]) <;> (try omega), by (simp (disch := omega) [go_sem, *]) <;> (try omega), rfl⟩, ?_⟩
      rw [hm]
      simp [upd, strLen]
    | false =>
      rw [hb, if_neg (by simp)] at ht
      rw [hb] at hcn
      rw [← ht]
      clear ht
      repeat' (first | (with_reducible (first | apply w_seq | apply w_region | apply w_block | apply w_skip | apply w_exit | apply w_ret | apply w_then | apply w_then_exit | apply w_then_ret | apply w_in | apply w_in_here | apply w_in_ret | apply w_round | apply o_nil | apply d_nil)) | ((with_reducible (first | apply w_in_exit)); rfl) | ((with_reducible (first | apply w_draw)); rfl) | ((first | ((with_reducible (first | apply o_op | apply d_op | apply q_op)); rfl; rfl) | ((with_reducible (first | apply w_cond | apply w_end | apply w_return))) | ((with_reducible (first | apply o_guard | apply d_guard | apply q_guard)); rfl) | ((with_reducible (first | apply o_call_eq | apply d_call | apply q_call)); rfl)); all_goals (first | ((with_reducible show Is _ _); ((try simp (disch := first | omega | (simp only [yA, yB, yC, yD, yE] <;> omega) | fail) [go_sem, yF, yG, yH, *, if_pos, if_neg, -List.map_take, -List.map_drop, -List.map_append, -List.map_reverse]); exact rfl)) | ((fail_if_success (with_reducible show Is _ _)); (first | ((with_reducible refine fun (hc : (_ : Bool) = _) => ?_); (try simp only [xA, xB, xC, xD, xE, xF, xG, xH, reduceCtorEq, xI, xJ, xK, xL, xM, xN, xO, xP, xQ, xR] at hc); (try (have hx : True := hc; clear hx hc)); (try (exfalso; omega)); (try (with_reducible (exact absurd hc (by assumption)))); (try (with_reducible (exact absurd (by assumption) hc)))) | ((with_reducible show ACall _ _ _ _ _); (first | ((with_reducible (first | apply hcn)) <;> (first | omega | assumption | exact rfl | ((simp (disch := first | omega | (simp only [yA, yB, yC, yD, yE] <;> omega) | fail) [go_sem, yF, yG, yH, *, -List.map_take, -List.map_drop, -List.map_append, -List.map_reverse]) <;> (first | done | omega | exact rfl)))))) | ((fail_if_success (with_reducible show ACall _ _ _ _ _)); (try ((with_reducible show _ ∨ _); first | exact .inl rfl | (refine .inr ⟨rfl, ?_, ?_⟩; (focus (repeat (first | exact trivial | refine ⟨.inl rfl, ?_⟩ | refine ⟨.inr rfl, ?_⟩))); (first | exact trivial | exact rfl))))))))))
      exact ⟨rfl, rfl⟩
  | nil =>
    repeat' (first | (with_reducible (first | apply w_seq | apply w_region | apply w_block | apply w_skip | apply w_exit | apply w_ret | apply w_then | apply w_then_exit | apply w_then_ret | apply w_in | apply w_in_here | apply w_in_ret | apply w_round | apply o_nil | apply d_nil)) | ((with_reducible (first | apply w_in_exit)); rfl) | ((with_reducible (first | apply w_draw)); rfl) | ((first | ((with_reducible (first | apply o_op | apply d_op | apply q_op)); rfl; rfl) | ((with_reducible (first | apply w_cond | apply w_end | apply w_return))) | ((with_reducible (first | apply o_guard | apply d_guard | apply q_guard)); rfl)); all_goals (first | ((with_reducible show Is _ _); ((try simp (disch := first | omega | (simp only [yA, yB, yC, yD, yE] <;> omega) | fail) [go_sem, yF, yG, yH, *, if_pos, if_neg, -List.map_take, -List.map_drop, -List.map_append, -List.map_reverse]); exact rfl)) | ((fail_if_success (with_reducible show Is _ _)); (first | ((with_reducible refine fun (hc : (_ : Bool) = _) => ?_); (try simp only [xA, xB, xC, xD, xE, xF, xG, xH, reduceCtorEq, xI, xJ, xK, xL, xM, xN, xO, xP, xQ, xR] at hc); (try (have hx : True := hc; clear hx hc)); (try (exfalso; omega)); (try (with_reducible (exact absurd hc (by assumption)))); (try (with_reducible (exact absurd (by assumption) hc)))) | ((fail_if_success (with_reducible show ACall _ _ _ _ _)); (try ((with_reducible show _ ∨ _); first | exact .inl rfl | (refine .inr ⟨rfl, ?_, ?_⟩; (focus (repeat (first | exact trivial | refine ⟨.inl rfl, ?_⟩ | refine ⟨.inr rfl, ?_⟩))); (first | exact trivial | exact rfl))))))))))
    exact ⟨by rw [← ht]; rfl, rfl⟩
theorem trimR_le (s : List UInt8) : (trimR s).length ≤ s.length := by
  rw [trimR, List.length_reverse]
  have := (List.dropWhile_sublist (p := blank) (l := s.reverse)).length_le
  simpa using this
theorem trimL_le (s : List UInt8) : (trimLs s).length ≤ s.length := (List.dropWhile_sublist _).length_le
theorem trimT_le (s : List UInt8) : (trimT s).length ≤ s.length := Nat.le_trans (trimL_le _) (trimR_le _)
theorem trim_in (s : List UInt8) (hs : s.length < 4611686018427387904) : PC Tryz.prog true 56 [.str s, .str [32, 9]] (.str (trimT s)) := by
  have hr := trimR_le s
  have l2 : (setS.map CV.bool).length = 256 := by simp [setS]
  have has : ∀ {B : List Box} {args : List CV}, Is args [.str [32, 9]] → ACall Tryz.prog 79 args B fun c B' => c = .tup [.agg (setS.map CV.bool), .bool true] ∧ B' = B ++ [⟨setS.map CV.bool, false⟩] := ascii_at
  have htr : ∀ {B : List Box} {β : Nat} {args : List CV}, Is args [.str s, .ptr β 0] → B[β]? = some ⟨setS.map CV.bool, false⟩ → ACall Tryz.prog 81 args B fun r B' => r = .str (trimR s) ∧ B' = B := fun h h2 => trimRight_at h hs h2
  have htl : ∀ {B : List Box} {β : Nat} {args : List CV}, Is args [.str (trimR s), .ptr β 0] → B[β]? = some ⟨setS.map CV.bool, false⟩ → ACall Tryz.prog 80 args B fun r B' => r = .str (trimLs (trimR s)) ∧ B' = B := fun h h2 => trimLeft_at h (by omega) h2
  by_cases h0 : s = []
  · subst h0
    refine acall_intro mixed Tryz.func56 rfl ca56 (by kernel_rfl) (by rw [Tryz.ntmps56]; simp) ?_
    repeat' (first | (with_reducible (first | apply w_seq | apply w_region | apply w_block | apply w_skip | apply w_exit | apply w_ret | apply w_then | apply w_then_exit | apply w_then_ret | apply w_in | apply w_in_here | apply w_in_ret | apply w_round | apply o_nil | apply d_nil)) | ((with_reducible (first | apply w_in_exit)); rfl) | ((with_reducible (first | apply w_draw)); rfl) | ((first | ((with_reducible (first | apply o_op | apply d_op | apply q_op)); rfl; rfl) | ((with_reducible (first | apply w_cond | apply w_end | apply w_return))) | ((with_reducible (first | apply o_guard | apply d_guard | apply q_guard)); rfl)); all_goals (first | ((with_reducible show Is _ _); ((try simp (disch := first | omega | (simp only [yA, yB, yC, yD, yE] <;> omega) | fail) [go_sem, yF, yG, yH, *, if_pos, if_neg, -List.map_take, -List.map_drop, -List.map_append, -List.map_reverse]); exact rfl)) | ((fail_if_success (with_reducible show Is _ _)); (first | ((with_reducible refine fun (hc : (_ : Bool) = _) => ?_); (try simp only [xA, xB, xC, xD, xE, xF, xG, xH, reduceCtorEq, xI, xJ, xK, xL, xM, xN, xO, xP, xQ, xR] at hc); (try (have hx : True := hc; clear hx hc)); (try (exfalso; omega)); (try (with_reducible (exact absurd hc (by assumption)))); (try (with_reducible (exact absurd (by assumption) hc)))) | ((fail_if_success (with_reducible show ACall _ _ _ _ _)); (try ((with_reducible show _ ∨ _); first | exact .inl rfl | (refine .inr ⟨rfl, ?_, ?_⟩; (focus (repeat (first | exact trivial | refine ⟨.inl rfl, ?_⟩ | refine ⟨.inr rfl, ?_⟩))); (first | exact trivial | exact rfl))))))))))
    rfl
  have hse : (s == []) = false := by simpa using h0
  rw [trimT]
  generalize trimLs (trimR s) = v at *
  generalize trimR s = u at *
  generalize setS.map CV.bool = X at *
  refine acall_intro mixed Tryz.func56 rfl ca56 (by kernel_rfl) (by rw [Tryz.ntmps56]; simp) ?_
  repeat' (first | (with_reducible (first | apply w_seq | apply w_region | apply w_block | apply w_skip | apply w_exit | apply w_ret | apply w_then | apply w_then_exit | apply w_then_ret | apply w_in | apply w_in_here | apply w_in_ret | apply w_round | apply o_nil | apply d_nil)) | ((with_reducible (first | apply w_in_exit)); rfl) | ((with_reducible (first | apply w_draw)); rfl) | ((first | ((with_reducible (first | apply o_op | apply d_op | apply q_op)); rfl; rfl) | ((with_reducible (first | apply w_cond | apply w_end | apply w_return))) | ((with_reducible (first | apply o_guard | apply d_guard | apply q_guard)); rfl) | ((with_reducible (first | apply o_call_eq | apply d_call | apply q_call)); rfl)); all_goals (first | ((with_reducible show Is _ _); ((try simp (disch := first | omega | (simp only [yA, yB, yC, yD, yE] <;> omega) | fail) [go_sem, yF, yG, yH, *, bx_get0, bx_get, bx_set0, bx_set, if_pos, if_neg, -List.map_take, -List.map_drop, -List.map_append, -List.map_reverse]); exact rfl)) | ((fail_if_success (with_reducible show Is _ _)); (first | ((with_reducible refine fun (hc : (_ : Bool) = _) => ?_); (try simp only [xA, xB, xC, xD, xE, xF, xG, xH, reduceCtorEq, xI, xJ, xK, xL, xM, xN, xO, xP, xQ, xR] at hc); (try (have hx : True := hc; clear hx hc)); (try (exfalso; omega)); (try (with_reducible (exact absurd hc (by assumption)))); (try (with_reducible (exact absurd (by assumption) hc)))) | ((with_reducible show ACall _ _ _ _ _); (first | ((with_reducible (first | apply has)) <;> (first | omega | assumption | exact rfl | ((simp (disch := first | omega | (simp only [yA, yB, yC, yD, yE] <;> omega) | fail) [go_sem, yF, yG, yH, *, bx_get0, bx_get, bx_set0, bx_set, -List.map_take, -List.map_drop, -List.map_append, -List.map_reverse]) <;> (first | done | omega | exact rfl)))) | ((with_reducible (first | apply htr)) <;> (first | omega | assumption | exact rfl | ((simp (disch := first | omega | (simp only [yA, yB, yC, yD, yE] <;> omega) | fail) [go_sem, yF, yG, yH, *, bx_get0, bx_get, bx_set0, bx_set, -List.map_take, -List.map_drop, -List.map_append, -List.map_reverse]) <;> (first | done | omega | exact rfl)))) | ((with_reducible (first | apply htl)) <;> (first | omega | assumption | exact rfl | ((simp (disch := first | omega | (simp only [yA, yB, yC, yD, yE] <;> omega) | fail) [go_sem, yF, yG, yH, *, bx_get0, bx_get, bx_set0, bx_set, -List.map_take, -List.map_drop, -List.map_append, -List.map_reverse]) <;> (first | done | omega | exact rfl)))))) | ((fail_if_success (with_reducible show ACall _ _ _ _ _)); (try ((with_reducible show _ ∨ _); first | exact .inl rfl | (refine .inr ⟨rfl, ?_, ?_⟩; (focus (repeat (first | exact trivial | refine ⟨.inl rfl, ?_⟩ | refine ⟨.inr rfl, ?_⟩))); (first | exact trivial | exact rfl))))))))))
  rfl
theorem trim_at {B : List Box} {args : List CV} {s : List UInt8} (hz : Is (omap (Go.Sy.fz true false B 6) args) (some [.str s, .str [32, 9]])) (hs : s.length < 4611686018427387904) : ACall Tryz.prog 56 args B fun r B' => r = .str (trimT s) ∧ B' = B := acall_fresh hz (trim_in s hs)
end Go.Proofs.YtdceppjoipoohaaGreatDoor
end
