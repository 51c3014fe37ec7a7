/- Lemmas and definitions of this claim (own texts, joined by a program; what the claim does not use is left out). -/
import Derived.Test.YtdceppjoipoohaaDoorCc4
import Derived.Test.YtdceppjoipoohaaDoorRows
import Derived.KernelRfl
import Derived.Laws.BitsAllLaws
section
namespace Go.Proofs.YtdceppjoipoohaaDoor
open Go Go.Sy
theorem mixed : Fit Tryd.prog := ⟨by kernel_rfl, fun _ h => by cases h⟩
@[go_sem] theorem sz2 : szOf Tryd.prog 2 = some 1 := by kernel_rfl
@[go_sem] theorem ag2 : aggT Tryd.prog 2 = false := by kernel_rfl
@[go_sem] theorem by2 : Tryd.prog.bytesOf 2 = 8 := by kernel_rfl
@[go_sem] theorem un2 : (Tryd.prog.underlying 2).isNone = false := by kernel_rfl
@[go_sem] theorem zo2 : zerosOf Tryd.prog 2 = some [.int .i64 0] := by kernel_rfl
attribute [go_sem] Tryd.underlying2
@[go_sem] theorem eql2 (d : Nat) (k : IntKind) (a b : Int) : eqV Tryd.prog (d + 1) 2 (.int k a) (.int k b) = some (a == b) := eqV_int Tryd.underlying2 d k a b
@[go_sem] theorem sz3 : szOf Tryd.prog 3 = some 1 := by kernel_rfl
@[go_sem] theorem ag3 : aggT Tryd.prog 3 = false := by kernel_rfl
@[go_sem] theorem by3 : Tryd.prog.bytesOf 3 = 8 := by kernel_rfl
@[go_sem] theorem un3 : (Tryd.prog.underlying 3).isNone = false := by kernel_rfl
@[go_sem] theorem zo3 : zerosOf Tryd.prog 3 = some [.int .i64 0] := by kernel_rfl
attribute [go_sem] Tryd.underlying3
@[go_sem] theorem eql3 (d : Nat) (k : IntKind) (a b : Int) : eqV Tryd.prog (d + 1) 3 (.int k a) (.int k b) = some (a == b) := eqV_int Tryd.underlying3 d k a b
@[go_sem] theorem sz4 : szOf Tryd.prog 4 = some 1 := by kernel_rfl
@[go_sem] theorem ag4 : aggT Tryd.prog 4 = false := by kernel_rfl
@[go_sem] theorem by4 : Tryd.prog.bytesOf 4 = 1 := by kernel_rfl
@[go_sem] theorem un4 : (Tryd.prog.underlying 4).isNone = false := by kernel_rfl
@[go_sem] theorem zo4 : zerosOf Tryd.prog 4 = some [.bool false] := by kernel_rfl
attribute [go_sem] Tryd.underlying4
@[go_sem] theorem eql4 (d : Nat) (a b : Bool) : eqV Tryd.prog (d + 1) 4 (.bool a) (.bool b) = some (a == b) := eqV_bool Tryd.underlying4 d a b
@[go_sem] theorem sz5 : szOf Tryd.prog 5 = some 1 := by kernel_rfl
@[go_sem] theorem ag5 : aggT Tryd.prog 5 = false := by kernel_rfl
@[go_sem] theorem by5 : Tryd.prog.bytesOf 5 = 1 := by kernel_rfl
@[go_sem] theorem un5 : (Tryd.prog.underlying 5).isNone = false := by kernel_rfl
@[go_sem] theorem zo5 : zerosOf Tryd.prog 5 = some [.int .u8 0] := by kernel_rfl
attribute [go_sem] Tryd.underlying5
@[go_sem] theorem eql5 (d : Nat) (k : IntKind) (a b : Int) : eqV Tryd.prog (d + 1) 5 (.int k a) (.int k b) = some (a == b) := eqV_int Tryd.underlying5 d k a b
@[go_sem] theorem sz6 : szOf Tryd.prog 6 = some 1 := by kernel_rfl
@[go_sem] theorem ag6 : aggT Tryd.prog 6 = false := by kernel_rfl
@[go_sem] theorem by6 : Tryd.prog.bytesOf 6 = 1 := by kernel_rfl
@[go_sem] theorem un6 : (Tryd.prog.underlying 6).isNone = false := by kernel_rfl
@[go_sem] theorem zo6 : zerosOf Tryd.prog 6 = some [.int .u8 0] := by kernel_rfl
attribute [go_sem] Tryd.underlying6
@[go_sem] theorem eql6 (d : Nat) (k : IntKind) (a b : Int) : eqV Tryd.prog (d + 1) 6 (.int k a) (.int k b) = some (a == b) := eqV_int Tryd.underlying6 d k a b
@[go_sem] theorem sz7 : szOf Tryd.prog 7 = some 4 := by kernel_rfl
@[go_sem] theorem ag7 : aggT Tryd.prog 7 = true := by kernel_rfl
@[go_sem] theorem by7 : Tryd.prog.bytesOf 7 = 24 := by kernel_rfl
@[go_sem] theorem un7 : (Tryd.prog.underlying 7).isNone = false := by kernel_rfl
@[go_sem] theorem zo7 : zerosOf Tryd.prog 7 = some [.int .i64 0, .int .i64 0, .bool false, .int .u8 0] := by kernel_rfl
attribute [go_sem] Tryd.underlying7
@[go_sem] theorem gd7 : Tryd.prog.eqGuardType Tryd.prog.depth 7 = false := by kernel_rfl
@[go_sem] theorem st7 : Tryd.prog.stoodInHeld 7 = false := by kernel_rfl
@[go_sem] theorem eqs7 (d : Nat) (xs ys : List CV) : eqV Tryd.prog (d + 1) 7 (.agg xs) (.agg ys) = eqF Tryd.prog d xs ys (match Tryd.prog.underlying 7 with | some (.struct fs) => fs.toList | _ => []) := by rw [Tryd.underlying7]; exact eqV_struct Tryd.underlying7 st7 d xs ys
@[go_sem] theorem sz8 : szOf Tryd.prog 8 = some 4 := by kernel_rfl
@[go_sem] theorem ag8 : aggT Tryd.prog 8 = true := by kernel_rfl
@[go_sem] theorem by8 : Tryd.prog.bytesOf 8 = 24 := by kernel_rfl
@[go_sem] theorem un8 : (Tryd.prog.underlying 8).isNone = false := by kernel_rfl
@[go_sem] theorem zo8 : zerosOf Tryd.prog 8 = some [.int .i64 0, .int .i64 0, .bool false, .int .u8 0] := by kernel_rfl
attribute [go_sem] Tryd.underlying8
@[go_sem] theorem gd8 : Tryd.prog.eqGuardType Tryd.prog.depth 8 = false := by kernel_rfl
@[go_sem] theorem st8 : Tryd.prog.stoodInHeld 8 = false := by kernel_rfl
@[go_sem] theorem eqs8 (d : Nat) (xs ys : List CV) : eqV Tryd.prog (d + 1) 8 (.agg xs) (.agg ys) = eqF Tryd.prog d xs ys (match Tryd.prog.underlying 8 with | some (.struct fs) => fs.toList | _ => []) := by rw [Tryd.underlying8]; exact eqV_struct Tryd.underlying8 st8 d xs ys
@[go_sem] theorem sz9 : szOf Tryd.prog 9 = some 1 := by kernel_rfl
@[go_sem] theorem ag9 : aggT Tryd.prog 9 = false := by kernel_rfl
@[go_sem] theorem by9 : Tryd.prog.bytesOf 9 = 16 := by kernel_rfl
@[go_sem] theorem un9 : (Tryd.prog.underlying 9).isNone = false := by kernel_rfl
@[go_sem] theorem zo9 : zerosOf Tryd.prog 9 = some [.str []] := by kernel_rfl
attribute [go_sem] Tryd.underlying9
@[go_sem] theorem eql9 (d : Nat) (a b : List UInt8) : eqV Tryd.prog (d + 1) 9 (.str a) (.str b) = some (a == b) := eqV_str Tryd.underlying9 d a b
@[go_sem] theorem sz10 : szOf Tryd.prog 10 = some 1 := by kernel_rfl
@[go_sem] theorem ag10 : aggT Tryd.prog 10 = false := by kernel_rfl
@[go_sem] theorem by10 : Tryd.prog.bytesOf 10 = 16 := by kernel_rfl
@[go_sem] theorem un10 : (Tryd.prog.underlying 10).isNone = false := by kernel_rfl
@[go_sem] theorem zo10 : zerosOf Tryd.prog 10 = some [.str []] := by kernel_rfl
attribute [go_sem] Tryd.underlying10
@[go_sem] theorem eql10 (d : Nat) (a b : List UInt8) : eqV Tryd.prog (d + 1) 10 (.str a) (.str b) = some (a == b) := eqV_str Tryd.underlying10 d a b
@[go_sem] theorem sz11 : szOf Tryd.prog 11 = some 1 := by kernel_rfl
@[go_sem] theorem ag11 : aggT Tryd.prog 11 = false := by kernel_rfl
@[go_sem] theorem by11 : Tryd.prog.bytesOf 11 = 16 := by kernel_rfl
@[go_sem] theorem un11 : (Tryd.prog.underlying 11).isNone = false := by kernel_rfl
@[go_sem] theorem zo11 : zerosOf Tryd.prog 11 = some [.str []] := by kernel_rfl
attribute [go_sem] Tryd.underlying11
@[go_sem] theorem eql11 (d : Nat) (a b : List UInt8) : eqV Tryd.prog (d + 1) 11 (.str a) (.str b) = some (a == b) := eqV_str Tryd.underlying11 d a b
@[go_sem] theorem sz12 : szOf Tryd.prog 12 = some 1 := by kernel_rfl
@[go_sem] theorem ag12 : aggT Tryd.prog 12 = false := by kernel_rfl
@[go_sem] theorem by12 : Tryd.prog.bytesOf 12 = 8 := by kernel_rfl
@[go_sem] theorem un12 : (Tryd.prog.underlying 12).isNone = false := by kernel_rfl
@[go_sem] theorem zo12 : zerosOf Tryd.prog 12 = some [.int .u64 0] := by kernel_rfl
attribute [go_sem] Tryd.underlying12
@[go_sem] theorem eql12 (d : Nat) (k : IntKind) (a b : Int) : eqV Tryd.prog (d + 1) 12 (.int k a) (.int k b) = some (a == b) := eqV_int Tryd.underlying12 d k a b
@[go_sem] theorem sz13 : szOf Tryd.prog 13 = some 2 := by kernel_rfl
@[go_sem] theorem ag13 : aggT Tryd.prog 13 = true := by kernel_rfl
@[go_sem] theorem by13 : Tryd.prog.bytesOf 13 = 24 := by kernel_rfl
@[go_sem] theorem un13 : (Tryd.prog.underlying 13).isNone = false := by kernel_rfl
@[go_sem] theorem zo13 : zerosOf Tryd.prog 13 = some [.str [], .int .u64 0] := by kernel_rfl
attribute [go_sem] Tryd.underlying13
@[go_sem] theorem gd13 : Tryd.prog.eqGuardType Tryd.prog.depth 13 = false := by kernel_rfl
@[go_sem] theorem sz14 : szOf Tryd.prog 14 = some 2 := by kernel_rfl
@[go_sem] theorem ag14 : aggT Tryd.prog 14 = true := by kernel_rfl
@[go_sem] theorem by14 : Tryd.prog.bytesOf 14 = 24 := by kernel_rfl
@[go_sem] theorem un14 : (Tryd.prog.underlying 14).isNone = false := by kernel_rfl
@[go_sem] theorem zo14 : zerosOf Tryd.prog 14 = some [.str [], .int .u64 0] := by kernel_rfl
attribute [go_sem] Tryd.underlying14
@[go_sem] theorem gd14 : Tryd.prog.eqGuardType Tryd.prog.depth 14 = false := by kernel_rfl
@[go_sem] theorem sz15 : szOf Tryd.prog 15 = some 1 := by kernel_rfl
@[go_sem] theorem ag15 : aggT Tryd.prog 15 = false := by kernel_rfl
@[go_sem] theorem by15 : Tryd.prog.bytesOf 15 = 8 := by kernel_rfl
@[go_sem] theorem un15 : (Tryd.prog.underlying 15).isNone = false := by kernel_rfl
@[go_sem] theorem zo15 : zerosOf Tryd.prog 15 = some [.nilP] := by kernel_rfl
attribute [go_sem] Tryd.underlying15
@[go_sem] theorem sz16 : szOf Tryd.prog 16 = some 1 := by kernel_rfl
@[go_sem] theorem ag16 : aggT Tryd.prog 16 = false := by kernel_rfl
@[go_sem] theorem by16 : Tryd.prog.bytesOf 16 = 8 := by kernel_rfl
@[go_sem] theorem un16 : (Tryd.prog.underlying 16).isNone = false := by kernel_rfl
@[go_sem] theorem zo16 : zerosOf Tryd.prog 16 = some [.nilP] := by kernel_rfl
attribute [go_sem] Tryd.underlying16
@[go_sem] theorem sz17 : szOf Tryd.prog 17 = some 1 := by kernel_rfl
@[go_sem] theorem ag17 : aggT Tryd.prog 17 = false := by kernel_rfl
@[go_sem] theorem by17 : Tryd.prog.bytesOf 17 = 8 := by kernel_rfl
@[go_sem] theorem un17 : (Tryd.prog.underlying 17).isNone = false := by kernel_rfl
@[go_sem] theorem zo17 : zerosOf Tryd.prog 17 = some [.nilP] := by kernel_rfl
attribute [go_sem] Tryd.underlying17
@[go_sem] theorem sz18 : szOf Tryd.prog 18 = some 1 := by kernel_rfl
@[go_sem] theorem ag18 : aggT Tryd.prog 18 = true := by kernel_rfl
@[go_sem] theorem by18 : Tryd.prog.bytesOf 18 = 8 := by kernel_rfl
@[go_sem] theorem un18 : (Tryd.prog.underlying 18).isNone = false := by kernel_rfl
@[go_sem] theorem zo18 : zerosOf Tryd.prog 18 = some [.nilP] := by kernel_rfl
attribute [go_sem] Tryd.underlying18
@[go_sem] theorem gd18 : Tryd.prog.eqGuardType Tryd.prog.depth 18 = false := by kernel_rfl
@[go_sem] theorem sz19 : szOf Tryd.prog 19 = some 1 := by kernel_rfl
@[go_sem] theorem ag19 : aggT Tryd.prog 19 = true := by kernel_rfl
@[go_sem] theorem by19 : Tryd.prog.bytesOf 19 = 8 := by kernel_rfl
@[go_sem] theorem un19 : (Tryd.prog.underlying 19).isNone = false := by kernel_rfl
@[go_sem] theorem zo19 : zerosOf Tryd.prog 19 = some [.nilP] := by kernel_rfl
attribute [go_sem] Tryd.underlying19
@[go_sem] theorem gd19 : Tryd.prog.eqGuardType Tryd.prog.depth 19 = false := by kernel_rfl
@[go_sem] theorem sz21 : szOf Tryd.prog 21 = some 1 := by kernel_rfl
@[go_sem] theorem ag21 : aggT Tryd.prog 21 = false := by kernel_rfl
@[go_sem] theorem by21 : Tryd.prog.bytesOf 21 = 4 := by kernel_rfl
@[go_sem] theorem un21 : (Tryd.prog.underlying 21).isNone = false := by kernel_rfl
@[go_sem] theorem zo21 : zerosOf Tryd.prog 21 = some [.int .i32 0] := by kernel_rfl
attribute [go_sem] Tryd.underlying21
@[go_sem] theorem eql21 (d : Nat) (k : IntKind) (a b : Int) : eqV Tryd.prog (d + 1) 21 (.int k a) (.int k b) = some (a == b) := eqV_int Tryd.underlying21 d k a b
@[go_sem] theorem sz22 : szOf Tryd.prog 22 = some 1 := by kernel_rfl
@[go_sem] theorem ag22 : aggT Tryd.prog 22 = false := by kernel_rfl
@[go_sem] theorem by22 : Tryd.prog.bytesOf 22 = 24 := by kernel_rfl
@[go_sem] theorem un22 : (Tryd.prog.underlying 22).isNone = false := by kernel_rfl
@[go_sem] theorem zo22 : zerosOf Tryd.prog 22 = some [.nilS] := by kernel_rfl
attribute [go_sem] Tryd.underlying22
@[go_sem] theorem el22 : elemT Tryd.prog 22 = some 5 := by kernel_rfl
@[go_sem] theorem ap22 (B : List Box) (s x : CV) : appendC Tryd.prog 22 B s x = appendK Tryd.prog 5 1 B s x := appendC_eq (by kernel_rfl) (by kernel_rfl) (by kernel_rfl) B s x
@[go_sem] theorem sz23 : szOf Tryd.prog 23 = some 16 := by kernel_rfl
@[go_sem] theorem ag23 : aggT Tryd.prog 23 = true := by kernel_rfl
@[go_sem] theorem by23 : Tryd.prog.bytesOf 23 = 16 := by kernel_rfl
@[go_sem] theorem un23 : (Tryd.prog.underlying 23).isNone = false := by kernel_rfl
@[go_sem] theorem zo23 : zerosOf Tryd.prog 23 = some [.int .u8 0, .int .u8 0, .int .u8 0, .int .u8 0, .int .u8 0, .int .u8 0, .int .u8 0, .int .u8 0, .int .u8 0, .int .u8 0, .int .u8 0, .int .u8 0, .int .u8 0, .int .u8 0, .int .u8 0, .int .u8 0] := by kernel_rfl
attribute [go_sem] Tryd.underlying23
@[go_sem] theorem gd23 : Tryd.prog.eqGuardType Tryd.prog.depth 23 = false := by kernel_rfl
@[go_sem] theorem eqb23 (l1 l2 : List UInt8) (h1 : l1.length = 16) (h2 : l2.length = 16) (d : Nat) : eqV Tryd.prog (d + 2) 23 (.agg (l1.map byteC)) (.agg (l2.map byteC)) = some (l1 == l2) := eqV_bytes Tryd.underlying23 Tryd.underlying5 (by kernel_rfl) (by kernel_rfl) l1 l2 h1 h2
@[go_sem] theorem eqz23 (l1 : List UInt8) (h1 : l1.length = 16) (d : Nat) : eqV Tryd.prog (d + 2) 23 (.agg (l1.map byteC)) (.agg [.int .u8 0, .int .u8 0, .int .u8 0, .int .u8 0, .int .u8 0, .int .u8 0, .int .u8 0, .int .u8 0, .int .u8 0, .int .u8 0, .int .u8 0, .int .u8 0, .int .u8 0, .int .u8 0, .int .u8 0, .int .u8 0]) = some (l1 == List.replicate 16 0) := eqb23 l1 (List.replicate 16 0) h1 rfl d
@[go_sem] theorem sz24 : szOf Tryd.prog 24 = some 17 := by kernel_rfl
@[go_sem] theorem ag24 : aggT Tryd.prog 24 = true := by kernel_rfl
@[go_sem] theorem by24 : Tryd.prog.bytesOf 24 = 17 := by kernel_rfl
@[go_sem] theorem un24 : (Tryd.prog.underlying 24).isNone = false := by kernel_rfl
@[go_sem] theorem zo24 : zerosOf Tryd.prog 24 = some [.bool false, .int .u8 0, .int .u8 0, .int .u8 0, .int .u8 0, .int .u8 0, .int .u8 0, .int .u8 0, .int .u8 0, .int .u8 0, .int .u8 0, .int .u8 0, .int .u8 0, .int .u8 0, .int .u8 0, .int .u8 0, .int .u8 0] := by kernel_rfl
attribute [go_sem] Tryd.underlying24
@[go_sem] theorem gd24 : Tryd.prog.eqGuardType Tryd.prog.depth 24 = false := by kernel_rfl
@[go_sem] theorem st24 : Tryd.prog.stoodInHeld 24 = false := by kernel_rfl
@[go_sem] theorem eqs24 (d : Nat) (xs ys : List CV) : eqV Tryd.prog (d + 1) 24 (.agg xs) (.agg ys) = eqF Tryd.prog d xs ys (match Tryd.prog.underlying 24 with | some (.struct fs) => fs.toList | _ => []) := by rw [Tryd.underlying24]; exact eqV_struct Tryd.underlying24 st24 d xs ys
@[go_sem] theorem sz25 : szOf Tryd.prog 25 = some 17 := by kernel_rfl
@[go_sem] theorem ag25 : aggT Tryd.prog 25 = true := by kernel_rfl
@[go_sem] theorem by25 : Tryd.prog.bytesOf 25 = 17 := by kernel_rfl
@[go_sem] theorem un25 : (Tryd.prog.underlying 25).isNone = false := by kernel_rfl
@[go_sem] theorem zo25 : zerosOf Tryd.prog 25 = some [.bool false, .int .u8 0, .int .u8 0, .int .u8 0, .int .u8 0, .int .u8 0, .int .u8 0, .int .u8 0, .int .u8 0, .int .u8 0, .int .u8 0, .int .u8 0, .int .u8 0, .int .u8 0, .int .u8 0, .int .u8 0, .int .u8 0] := by kernel_rfl
attribute [go_sem] Tryd.underlying25
@[go_sem] theorem gd25 : Tryd.prog.eqGuardType Tryd.prog.depth 25 = false := by kernel_rfl
@[go_sem] theorem st25 : Tryd.prog.stoodInHeld 25 = false := by kernel_rfl
@[go_sem] theorem eqs25 (d : Nat) (xs ys : List CV) : eqV Tryd.prog (d + 1) 25 (.agg xs) (.agg ys) = eqF Tryd.prog d xs ys (match Tryd.prog.underlying 25 with | some (.struct fs) => fs.toList | _ => []) := by rw [Tryd.underlying25]; exact eqV_struct Tryd.underlying25 st25 d xs ys
@[go_sem] theorem sz26 : szOf Tryd.prog 26 = some 18 := by kernel_rfl
@[go_sem] theorem ag26 : aggT Tryd.prog 26 = true := by kernel_rfl
@[go_sem] theorem by26 : Tryd.prog.bytesOf 26 = 32 := by kernel_rfl
@[go_sem] theorem un26 : (Tryd.prog.underlying 26).isNone = false := by kernel_rfl
@[go_sem] theorem zo26 : zerosOf Tryd.prog 26 = some [.bool false, .int .u8 0, .int .u8 0, .int .u8 0, .int .u8 0, .int .u8 0, .int .u8 0, .int .u8 0, .int .u8 0, .int .u8 0, .int .u8 0, .int .u8 0, .int .u8 0, .int .u8 0, .int .u8 0, .int .u8 0, .int .u8 0, .int .i64 0] := by kernel_rfl
attribute [go_sem] Tryd.underlying26
@[go_sem] theorem gd26 : Tryd.prog.eqGuardType Tryd.prog.depth 26 = false := by kernel_rfl
@[go_sem] theorem st26 : Tryd.prog.stoodInHeld 26 = false := by kernel_rfl
@[go_sem] theorem eqs26 (d : Nat) (xs ys : List CV) : eqV Tryd.prog (d + 1) 26 (.agg xs) (.agg ys) = eqF Tryd.prog d xs ys (match Tryd.prog.underlying 26 with | some (.struct fs) => fs.toList | _ => []) := by rw [Tryd.underlying26]; exact eqV_struct Tryd.underlying26 st26 d xs ys
@[go_sem] theorem sz27 : szOf Tryd.prog 27 = some 18 := by kernel_rfl
@[go_sem] theorem ag27 : aggT Tryd.prog 27 = true := by kernel_rfl
@[go_sem] theorem by27 : Tryd.prog.bytesOf 27 = 32 := by kernel_rfl
@[go_sem] theorem un27 : (Tryd.prog.underlying 27).isNone = false := by kernel_rfl
@[go_sem] theorem zo27 : zerosOf Tryd.prog 27 = some [.bool false, .int .u8 0, .int .u8 0, .int .u8 0, .int .u8 0, .int .u8 0, .int .u8 0, .int .u8 0, .int .u8 0, .int .u8 0, .int .u8 0, .int .u8 0, .int .u8 0, .int .u8 0, .int .u8 0, .int .u8 0, .int .u8 0, .int .i64 0] := by kernel_rfl
attribute [go_sem] Tryd.underlying27
@[go_sem] theorem gd27 : Tryd.prog.eqGuardType Tryd.prog.depth 27 = false := by kernel_rfl
@[go_sem] theorem st27 : Tryd.prog.stoodInHeld 27 = false := by kernel_rfl
@[go_sem] theorem eqs27 (d : Nat) (xs ys : List CV) : eqV Tryd.prog (d + 1) 27 (.agg xs) (.agg ys) = eqF Tryd.prog d xs ys (match Tryd.prog.underlying 27 with | some (.struct fs) => fs.toList | _ => []) := by rw [Tryd.underlying27]; exact eqV_struct Tryd.underlying27 st27 d xs ys
@[go_sem] theorem sz28 : szOf Tryd.prog 28 = some 18 := by kernel_rfl
@[go_sem] theorem ag28 : aggT Tryd.prog 28 = true := by kernel_rfl
@[go_sem] theorem by28 : Tryd.prog.bytesOf 28 = 32 := by kernel_rfl
@[go_sem] theorem un28 : (Tryd.prog.underlying 28).isNone = false := by kernel_rfl
@[go_sem] theorem zo28 : zerosOf Tryd.prog 28 = some [.bool false, .int .u8 0, .int .u8 0, .int .u8 0, .int .u8 0, .int .u8 0, .int .u8 0, .int .u8 0, .int .u8 0, .int .u8 0, .int .u8 0, .int .u8 0, .int .u8 0, .int .u8 0, .int .u8 0, .int .u8 0, .int .u8 0, .int .i64 0] := by kernel_rfl
attribute [go_sem] Tryd.underlying28
@[go_sem] theorem gd28 : Tryd.prog.eqGuardType Tryd.prog.depth 28 = false := by kernel_rfl
@[go_sem] theorem st28 : Tryd.prog.stoodInHeld 28 = false := by kernel_rfl
@[go_sem] theorem eqs28 (d : Nat) (xs ys : List CV) : eqV Tryd.prog (d + 1) 28 (.agg xs) (.agg ys) = eqF Tryd.prog d xs ys (match Tryd.prog.underlying 28 with | some (.struct fs) => fs.toList | _ => []) := by rw [Tryd.underlying28]; exact eqV_struct Tryd.underlying28 st28 d xs ys
@[go_sem] theorem sz29 : szOf Tryd.prog 29 = some 18 := by kernel_rfl
@[go_sem] theorem ag29 : aggT Tryd.prog 29 = true := by kernel_rfl
@[go_sem] theorem by29 : Tryd.prog.bytesOf 29 = 32 := by kernel_rfl
@[go_sem] theorem un29 : (Tryd.prog.underlying 29).isNone = false := by kernel_rfl
@[go_sem] theorem zo29 : zerosOf Tryd.prog 29 = some [.bool false, .int .u8 0, .int .u8 0, .int .u8 0, .int .u8 0, .int .u8 0, .int .u8 0, .int .u8 0, .int .u8 0, .int .u8 0, .int .u8 0, .int .u8 0, .int .u8 0, .int .u8 0, .int .u8 0, .int .u8 0, .int .u8 0, .int .i64 0] := by kernel_rfl
attribute [go_sem] Tryd.underlying29
@[go_sem] theorem gd29 : Tryd.prog.eqGuardType Tryd.prog.depth 29 = false := by kernel_rfl
@[go_sem] theorem st29 : Tryd.prog.stoodInHeld 29 = false := by kernel_rfl
@[go_sem] theorem eqs29 (d : Nat) (xs ys : List CV) : eqV Tryd.prog (d + 1) 29 (.agg xs) (.agg ys) = eqF Tryd.prog d xs ys (match Tryd.prog.underlying 29 with | some (.struct fs) => fs.toList | _ => []) := by rw [Tryd.underlying29]; exact eqV_struct Tryd.underlying29 st29 d xs ys
@[go_sem] theorem sz30 : szOf Tryd.prog 30 = some 1 := by kernel_rfl
@[go_sem] theorem ag30 : aggT Tryd.prog 30 = false := by kernel_rfl
@[go_sem] theorem by30 : Tryd.prog.bytesOf 30 = 8 := by kernel_rfl
@[go_sem] theorem un30 : (Tryd.prog.underlying 30).isNone = false := by kernel_rfl
@[go_sem] theorem zo30 : zerosOf Tryd.prog 30 = some [.nilP] := by kernel_rfl
attribute [go_sem] Tryd.underlying30
@[go_sem] theorem sz39 : szOf Tryd.prog 39 = some 1 := by kernel_rfl
@[go_sem] theorem ag39 : aggT Tryd.prog 39 = false := by kernel_rfl
@[go_sem] theorem by39 : Tryd.prog.bytesOf 39 = 24 := by kernel_rfl
@[go_sem] theorem un39 : (Tryd.prog.underlying 39).isNone = false := by kernel_rfl
@[go_sem] theorem zo39 : zerosOf Tryd.prog 39 = some [.nilS] := by kernel_rfl
attribute [go_sem] Tryd.underlying39
@[go_sem] theorem el39 : elemT Tryd.prog 39 = some 9 := by kernel_rfl
@[go_sem] theorem ap39 (B : List Box) (s x : CV) : appendC Tryd.prog 39 B s x = appendK Tryd.prog 9 1 B s x := appendC_eq (by kernel_rfl) (by kernel_rfl) (by kernel_rfl) B s x
@[go_sem] theorem sz43 : szOf Tryd.prog 43 = some 1 := by kernel_rfl
@[go_sem] theorem ag43 : aggT Tryd.prog 43 = false := by kernel_rfl
@[go_sem] theorem by43 : Tryd.prog.bytesOf 43 = 8 := by kernel_rfl
@[go_sem] theorem un43 : (Tryd.prog.underlying 43).isNone = false := by kernel_rfl
@[go_sem] theorem zo43 : zerosOf Tryd.prog 43 = some [.int .i64 0] := by kernel_rfl
attribute [go_sem] Tryd.underlying43
@[go_sem] theorem eql43 (d : Nat) (k : IntKind) (a b : Int) : eqV Tryd.prog (d + 1) 43 (.int k a) (.int k b) = some (a == b) := eqV_int Tryd.underlying43 d k a b
@[go_sem] theorem sz51 : szOf Tryd.prog 51 = some 32 := by kernel_rfl
@[go_sem] theorem ag51 : aggT Tryd.prog 51 = true := by kernel_rfl
@[go_sem] theorem by51 : Tryd.prog.bytesOf 51 = 32 := by kernel_rfl
@[go_sem] theorem un51 : (Tryd.prog.underlying 51).isNone = false := by kernel_rfl
@[go_sem] theorem zo51 : zerosOf Tryd.prog 51 = some [.int .u8 0, .int .u8 0, .int .u8 0, .int .u8 0, .int .u8 0, .int .u8 0, .int .u8 0, .int .u8 0, .int .u8 0, .int .u8 0, .int .u8 0, .int .u8 0, .int .u8 0, .int .u8 0, .int .u8 0, .int .u8 0, .int .u8 0, .int .u8 0, .int .u8 0, .int .u8 0, .int .u8 0, .int .u8 0, .int .u8 0, .int .u8 0, .int .u8 0, .int .u8 0, .int .u8 0, .int .u8 0, .int .u8 0, .int .u8 0, .int .u8 0, .int .u8 0] := by kernel_rfl
attribute [go_sem] Tryd.underlying51
@[go_sem] theorem gd51 : Tryd.prog.eqGuardType Tryd.prog.depth 51 = false := by kernel_rfl
@[go_sem] theorem eqb51 (l1 l2 : List UInt8) (h1 : l1.length = 32) (h2 : l2.length = 32) (d : Nat) : eqV Tryd.prog (d + 2) 51 (.agg (l1.map byteC)) (.agg (l2.map byteC)) = some (l1 == l2) := eqV_bytes Tryd.underlying51 Tryd.underlying5 (by kernel_rfl) (by kernel_rfl) l1 l2 h1 h2
@[go_sem] theorem eqz51 (l1 : List UInt8) (h1 : l1.length = 32) (d : Nat) : eqV Tryd.prog (d + 2) 51 (.agg (l1.map byteC)) (.agg [.int .u8 0, .int .u8 0, .int .u8 0, .int .u8 0, .int .u8 0, .int .u8 0, .int .u8 0, .int .u8 0, .int .u8 0, .int .u8 0, .int .u8 0, .int .u8 0, .int .u8 0, .int .u8 0, .int .u8 0, .int .u8 0, .int .u8 0, .int .u8 0, .int .u8 0, .int .u8 0, .int .u8 0, .int .u8 0, .int .u8 0, .int .u8 0, .int .u8 0, .int .u8 0, .int .u8 0, .int .u8 0, .int .u8 0, .int .u8 0, .int .u8 0, .int .u8 0]) = some (l1 == List.replicate 32 0) := eqb51 l1 (List.replicate 32 0) h1 rfl d
@[go_sem] theorem sz52 : szOf Tryd.prog 52 = some 32 := by kernel_rfl
@[go_sem] theorem ag52 : aggT Tryd.prog 52 = true := by kernel_rfl
@[go_sem] theorem by52 : Tryd.prog.bytesOf 52 = 32 := by kernel_rfl
@[go_sem] theorem un52 : (Tryd.prog.underlying 52).isNone = false := by kernel_rfl
@[go_sem] theorem zo52 : zerosOf Tryd.prog 52 = some [.int .u8 0, .int .u8 0, .int .u8 0, .int .u8 0, .int .u8 0, .int .u8 0, .int .u8 0, .int .u8 0, .int .u8 0, .int .u8 0, .int .u8 0, .int .u8 0, .int .u8 0, .int .u8 0, .int .u8 0, .int .u8 0, .int .u8 0, .int .u8 0, .int .u8 0, .int .u8 0, .int .u8 0, .int .u8 0, .int .u8 0, .int .u8 0, .int .u8 0, .int .u8 0, .int .u8 0, .int .u8 0, .int .u8 0, .int .u8 0, .int .u8 0, .int .u8 0] := by kernel_rfl
attribute [go_sem] Tryd.underlying52
@[go_sem] theorem gd52 : Tryd.prog.eqGuardType Tryd.prog.depth 52 = false := by kernel_rfl
@[go_sem] theorem eqb52 (l1 l2 : List UInt8) (h1 : l1.length = 32) (h2 : l2.length = 32) (d : Nat) : eqV Tryd.prog (d + 2) 52 (.agg (l1.map byteC)) (.agg (l2.map byteC)) = some (l1 == l2) := eqV_bytes Tryd.underlying52 Tryd.underlying5 (by kernel_rfl) (by kernel_rfl) l1 l2 h1 h2
@[go_sem] theorem eqz52 (l1 : List UInt8) (h1 : l1.length = 32) (d : Nat) : eqV Tryd.prog (d + 2) 52 (.agg (l1.map byteC)) (.agg [.int .u8 0, .int .u8 0, .int .u8 0, .int .u8 0, .int .u8 0, .int .u8 0, .int .u8 0, .int .u8 0, .int .u8 0, .int .u8 0, .int .u8 0, .int .u8 0, .int .u8 0, .int .u8 0, .int .u8 0, .int .u8 0, .int .u8 0, .int .u8 0, .int .u8 0, .int .u8 0, .int .u8 0, .int .u8 0, .int .u8 0, .int .u8 0, .int .u8 0, .int .u8 0, .int .u8 0, .int .u8 0, .int .u8 0, .int .u8 0, .int .u8 0, .int .u8 0]) = some (l1 == List.replicate 32 0) := eqb52 l1 (List.replicate 32 0) h1 rfl d
@[go_sem] theorem sz53 : szOf Tryd.prog 53 = some 1 := by kernel_rfl
@[go_sem] theorem ag53 : aggT Tryd.prog 53 = false := by kernel_rfl
@[go_sem] theorem by53 : Tryd.prog.bytesOf 53 = 24 := by kernel_rfl
@[go_sem] theorem un53 : (Tryd.prog.underlying 53).isNone = false := by kernel_rfl
@[go_sem] theorem zo53 : zerosOf Tryd.prog 53 = some [.nilS] := by kernel_rfl
attribute [go_sem] Tryd.underlying53
@[go_sem] theorem el53 : elemT Tryd.prog 53 = some 90 := by kernel_rfl
@[go_sem] theorem ap53 (B : List Box) (s x : CV) : appendC Tryd.prog 53 B s x = appendK Tryd.prog 90 85 B s x := appendC_eq (by kernel_rfl) (by kernel_rfl) (by kernel_rfl) B s x
@[go_sem] theorem sz54 : szOf Tryd.prog 54 = some 34 := by kernel_rfl
@[go_sem] theorem ag54 : aggT Tryd.prog 54 = true := by kernel_rfl
@[go_sem] theorem by54 : Tryd.prog.bytesOf 54 = 64 := by kernel_rfl
@[go_sem] theorem un54 : (Tryd.prog.underlying 54).isNone = false := by kernel_rfl
@[go_sem] theorem zo54 : zerosOf Tryd.prog 54 = some [.int .u8 0, .int .u8 0, .int .u8 0, .int .u8 0, .int .u8 0, .int .u8 0, .int .u8 0, .int .u8 0, .int .u8 0, .int .u8 0, .int .u8 0, .int .u8 0, .int .u8 0, .int .u8 0, .int .u8 0, .int .u8 0, .int .u8 0, .int .u8 0, .int .u8 0, .int .u8 0, .int .u8 0, .int .u8 0, .int .u8 0, .int .u8 0, .int .u8 0, .int .u8 0, .int .u8 0, .int .u8 0, .int .u8 0, .int .u8 0, .int .u8 0, .int .u8 0, .int .i64 0, .nilS] := by kernel_rfl
attribute [go_sem] Tryd.underlying54
@[go_sem] theorem gd54 : Tryd.prog.eqGuardType Tryd.prog.depth 54 = false := by kernel_rfl
@[go_sem] theorem st54 : Tryd.prog.stoodInHeld 54 = false := by kernel_rfl
@[go_sem] theorem eqs54 (d : Nat) (xs ys : List CV) : eqV Tryd.prog (d + 1) 54 (.agg xs) (.agg ys) = eqF Tryd.prog d xs ys (match Tryd.prog.underlying 54 with | some (.struct fs) => fs.toList | _ => []) := by rw [Tryd.underlying54]; exact eqV_struct Tryd.underlying54 st54 d xs ys
@[go_sem] theorem sz55 : szOf Tryd.prog 55 = some 34 := by kernel_rfl
@[go_sem] theorem ag55 : aggT Tryd.prog 55 = true := by kernel_rfl
@[go_sem] theorem by55 : Tryd.prog.bytesOf 55 = 64 := by kernel_rfl
@[go_sem] theorem un55 : (Tryd.prog.underlying 55).isNone = false := by kernel_rfl
@[go_sem] theorem zo55 : zerosOf Tryd.prog 55 = some [.int .u8 0, .int .u8 0, .int .u8 0, .int .u8 0, .int .u8 0, .int .u8 0, .int .u8 0, .int .u8 0, .int .u8 0, .int .u8 0, .int .u8 0, .int .u8 0, .int .u8 0, .int .u8 0, .int .u8 0, .int .u8 0, .int .u8 0, .int .u8 0, .int .u8 0, .int .u8 0, .int .u8 0, .int .u8 0, .int .u8 0, .int .u8 0, .int .u8 0, .int .u8 0, .int .u8 0, .int .u8 0, .int .u8 0, .int .u8 0, .int .u8 0, .int .u8 0, .int .i64 0, .nilS] := by kernel_rfl
attribute [go_sem] Tryd.underlying55
@[go_sem] theorem gd55 : Tryd.prog.eqGuardType Tryd.prog.depth 55 = false := by kernel_rfl
@[go_sem] theorem st55 : Tryd.prog.stoodInHeld 55 = false := by kernel_rfl
@[go_sem] theorem eqs55 (d : Nat) (xs ys : List CV) : eqV Tryd.prog (d + 1) 55 (.agg xs) (.agg ys) = eqF Tryd.prog d xs ys (match Tryd.prog.underlying 55 with | some (.struct fs) => fs.toList | _ => []) := by rw [Tryd.underlying55]; exact eqV_struct Tryd.underlying55 st55 d xs ys
@[go_sem] theorem sz59 : szOf Tryd.prog 59 = some 1 := by kernel_rfl
@[go_sem] theorem ag59 : aggT Tryd.prog 59 = false := by kernel_rfl
@[go_sem] theorem by59 : Tryd.prog.bytesOf 59 = 24 := by kernel_rfl
@[go_sem] theorem un59 : (Tryd.prog.underlying 59).isNone = false := by kernel_rfl
@[go_sem] theorem zo59 : zerosOf Tryd.prog 59 = some [.nilS] := by kernel_rfl
attribute [go_sem] Tryd.underlying59
@[go_sem] theorem el59 : elemT Tryd.prog 59 = some 55 := by kernel_rfl
@[go_sem] theorem ap59 (B : List Box) (s x : CV) : appendC Tryd.prog 59 B s x = appendK Tryd.prog 55 34 B s x := appendC_eq (by kernel_rfl) (by kernel_rfl) (by kernel_rfl) B s x
@[go_sem] theorem sz64 : szOf Tryd.prog 64 = some 2 := by kernel_rfl
@[go_sem] theorem ag64 : aggT Tryd.prog 64 = true := by kernel_rfl
@[go_sem] theorem by64 : Tryd.prog.bytesOf 64 = 32 := by kernel_rfl
@[go_sem] theorem un64 : (Tryd.prog.underlying 64).isNone = false := by kernel_rfl
@[go_sem] theorem zo64 : zerosOf Tryd.prog 64 = some [.nilS, .int .i64 0] := by kernel_rfl
attribute [go_sem] Tryd.underlying64
@[go_sem] theorem gd64 : Tryd.prog.eqGuardType Tryd.prog.depth 64 = false := by kernel_rfl
@[go_sem] theorem st64 : Tryd.prog.stoodInHeld 64 = false := by kernel_rfl
@[go_sem] theorem eqs64 (d : Nat) (xs ys : List CV) : eqV Tryd.prog (d + 1) 64 (.agg xs) (.agg ys) = eqF Tryd.prog d xs ys (match Tryd.prog.underlying 64 with | some (.struct fs) => fs.toList | _ => []) := by rw [Tryd.underlying64]; exact eqV_struct Tryd.underlying64 st64 d xs ys
@[go_sem] theorem sz65 : szOf Tryd.prog 65 = some 2 := by kernel_rfl
@[go_sem] theorem ag65 : aggT Tryd.prog 65 = true := by kernel_rfl
@[go_sem] theorem by65 : Tryd.prog.bytesOf 65 = 32 := by kernel_rfl
@[go_sem] theorem un65 : (Tryd.prog.underlying 65).isNone = false := by kernel_rfl
@[go_sem] theorem zo65 : zerosOf Tryd.prog 65 = some [.nilS, .int .i64 0] := by kernel_rfl
attribute [go_sem] Tryd.underlying65
@[go_sem] theorem gd65 : Tryd.prog.eqGuardType Tryd.prog.depth 65 = false := by kernel_rfl
@[go_sem] theorem st65 : Tryd.prog.stoodInHeld 65 = false := by kernel_rfl
@[go_sem] theorem eqs65 (d : Nat) (xs ys : List CV) : eqV Tryd.prog (d + 1) 65 (.agg xs) (.agg ys) = eqF Tryd.prog d xs ys (match Tryd.prog.underlying 65 with | some (.struct fs) => fs.toList | _ => []) := by rw [Tryd.underlying65]; exact eqV_struct Tryd.underlying65 st65 d xs ys
@[go_sem] theorem sz72 : szOf Tryd.prog 72 = some 1 := by kernel_rfl
@[go_sem] theorem ag72 : aggT Tryd.prog 72 = false := by kernel_rfl
@[go_sem] theorem by72 : Tryd.prog.bytesOf 72 = 8 := by kernel_rfl
@[go_sem] theorem un72 : (Tryd.prog.underlying 72).isNone = false := by kernel_rfl
@[go_sem] theorem zo72 : zerosOf Tryd.prog 72 = some [.int .u64 0] := by kernel_rfl
attribute [go_sem] Tryd.underlying72
@[go_sem] theorem eql72 (d : Nat) (k : IntKind) (a b : Int) : eqV Tryd.prog (d + 1) 72 (.int k a) (.int k b) = some (a == b) := eqV_int Tryd.underlying72 d k a b
@[go_sem] theorem sz87 : szOf Tryd.prog 87 = some 1 := by kernel_rfl
@[go_sem] theorem ag87 : aggT Tryd.prog 87 = false := by kernel_rfl
@[go_sem] theorem by87 : Tryd.prog.bytesOf 87 = 24 := by kernel_rfl
@[go_sem] theorem un87 : (Tryd.prog.underlying 87).isNone = false := by kernel_rfl
@[go_sem] theorem zo87 : zerosOf Tryd.prog 87 = some [.nilS] := by kernel_rfl
attribute [go_sem] Tryd.underlying87
@[go_sem] theorem el87 : elemT Tryd.prog 87 = some 29 := by kernel_rfl
@[go_sem] theorem ap87 (B : List Box) (s x : CV) : appendC Tryd.prog 87 B s x = appendK Tryd.prog 29 18 B s x := appendC_eq (by kernel_rfl) (by kernel_rfl) (by kernel_rfl) B s x
@[go_sem] theorem sz89 : szOf Tryd.prog 89 = some 85 := by kernel_rfl
@[go_sem] theorem ag89 : aggT Tryd.prog 89 = true := by kernel_rfl
@[go_sem] theorem by89 : Tryd.prog.bytesOf 89 = 136 := by kernel_rfl
@[go_sem] theorem un89 : (Tryd.prog.underlying 89).isNone = false := by kernel_rfl
@[go_sem] theorem zo89 : zerosOf Tryd.prog 89 = some [.int .u8 0, .int .u8 0, .int .u8 0, .int .u8 0, .int .u8 0, .int .u8 0, .int .u8 0, .int .u8 0, .int .u8 0, .int .u8 0, .int .u8 0, .int .u8 0, .int .u8 0, .int .u8 0, .int .u8 0, .int .u8 0, .int .u8 0, .int .u8 0, .int .u8 0, .int .u8 0, .int .u8 0, .int .u8 0, .int .u8 0, .int .u8 0, .int .u8 0, .int .u8 0, .int .u8 0, .int .u8 0, .int .u8 0, .int .u8 0, .int .u8 0, .int .u8 0, .int .u8 0, .int .u8 0, .int .u8 0, .int .u8 0, .int .u8 0, .int .u8 0, .int .u8 0, .int .u8 0, .int .u8 0, .int .u8 0, .int .u8 0, .int .u8 0, .int .u8 0, .int .u8 0, .int .u8 0, .int .u8 0, .int .u8 0, .int .u8 0, .int .u8 0, .int .u8 0, .int .u8 0, .int .u8 0, .int .u8 0, .int .u8 0, .int .u8 0, .int .u8 0, .int .u8 0, .int .u8 0, .int .u8 0, .int .u8 0, .int .u8 0, .int .u8 0, .bool false, .bool false, .int .u8 0, .int .u8 0, .int .u8 0, .int .u8 0, .int .u8 0, .int .u8 0, .int .u8 0, .int .u8 0, .int .u8 0, .int .u8 0, .int .u8 0, .int .u8 0, .int .u8 0, .int .u8 0, .int .u8 0, .int .u8 0, .int .i64 0, .int .i64 0, .nilS] := by kernel_rfl
attribute [go_sem] Tryd.underlying89
@[go_sem] theorem gd89 : Tryd.prog.eqGuardType Tryd.prog.depth 89 = false := by kernel_rfl
@[go_sem] theorem st89 : Tryd.prog.stoodInHeld 89 = false := by kernel_rfl
@[go_sem] theorem eqs89 (d : Nat) (xs ys : List CV) : eqV Tryd.prog (d + 1) 89 (.agg xs) (.agg ys) = eqF Tryd.prog d xs ys (match Tryd.prog.underlying 89 with | some (.struct fs) => fs.toList | _ => []) := by rw [Tryd.underlying89]; exact eqV_struct Tryd.underlying89 st89 d xs ys
@[go_sem] theorem sz90 : szOf Tryd.prog 90 = some 85 := by kernel_rfl
@[go_sem] theorem ag90 : aggT Tryd.prog 90 = true := by kernel_rfl
@[go_sem] theorem by90 : Tryd.prog.bytesOf 90 = 136 := by kernel_rfl
@[go_sem] theorem un90 : (Tryd.prog.underlying 90).isNone = false := by kernel_rfl
@[go_sem] theorem zo90 : zerosOf Tryd.prog 90 = some [.int .u8 0, .int .u8 0, .int .u8 0, .int .u8 0, .int .u8 0, .int .u8 0, .int .u8 0, .int .u8 0, .int .u8 0, .int .u8 0, .int .u8 0, .int .u8 0, .int .u8 0, .int .u8 0, .int .u8 0, .int .u8 0, .int .u8 0, .int .u8 0, .int .u8 0, .int .u8 0, .int .u8 0, .int .u8 0, .int .u8 0, .int .u8 0, .int .u8 0, .int .u8 0, .int .u8 0, .int .u8 0, .int .u8 0, .int .u8 0, .int .u8 0, .int .u8 0, .int .u8 0, .int .u8 0, .int .u8 0, .int .u8 0, .int .u8 0, .int .u8 0, .int .u8 0, .int .u8 0, .int .u8 0, .int .u8 0, .int .u8 0, .int .u8 0, .int .u8 0, .int .u8 0, .int .u8 0, .int .u8 0, .int .u8 0, .int .u8 0, .int .u8 0, .int .u8 0, .int .u8 0, .int .u8 0, .int .u8 0, .int .u8 0, .int .u8 0, .int .u8 0, .int .u8 0, .int .u8 0, .int .u8 0, .int .u8 0, .int .u8 0, .int .u8 0, .bool false, .bool false, .int .u8 0, .int .u8 0, .int .u8 0, .int .u8 0, .int .u8 0, .int .u8 0, .int .u8 0, .int .u8 0, .int .u8 0, .int .u8 0, .int .u8 0, .int .u8 0, .int .u8 0, .int .u8 0, .int .u8 0, .int .u8 0, .int .i64 0, .int .i64 0, .nilS] := by kernel_rfl
attribute [go_sem] Tryd.underlying90
@[go_sem] theorem gd90 : Tryd.prog.eqGuardType Tryd.prog.depth 90 = false := by kernel_rfl
@[go_sem] theorem st90 : Tryd.prog.stoodInHeld 90 = false := by kernel_rfl
@[go_sem] theorem eqs90 (d : Nat) (xs ys : List CV) : eqV Tryd.prog (d + 1) 90 (.agg xs) (.agg ys) = eqF Tryd.prog d xs ys (match Tryd.prog.underlying 90 with | some (.struct fs) => fs.toList | _ => []) := by rw [Tryd.underlying90]; exact eqV_struct Tryd.underlying90 st90 d xs ys
@[go_sem] theorem sz91 : szOf Tryd.prog 91 = some 1 := by kernel_rfl
@[go_sem] theorem ag91 : aggT Tryd.prog 91 = false := by kernel_rfl
@[go_sem] theorem by91 : Tryd.prog.bytesOf 91 = 8 := by kernel_rfl
@[go_sem] theorem un91 : (Tryd.prog.underlying 91).isNone = false := by kernel_rfl
@[go_sem] theorem zo91 : zerosOf Tryd.prog 91 = some [.nilP] := by kernel_rfl
attribute [go_sem] Tryd.underlying91
@[go_sem] theorem sz92 : szOf Tryd.prog 92 = some 1 := by kernel_rfl
@[go_sem] theorem ag92 : aggT Tryd.prog 92 = false := by kernel_rfl
@[go_sem] theorem by92 : Tryd.prog.bytesOf 92 = 8 := by kernel_rfl
@[go_sem] theorem un92 : (Tryd.prog.underlying 92).isNone = false := by kernel_rfl
@[go_sem] theorem zo92 : zerosOf Tryd.prog 92 = some [.nilP] := by kernel_rfl
attribute [go_sem] Tryd.underlying92
@[go_sem] theorem sz93 : szOf Tryd.prog 93 = some 2 := by kernel_rfl
@[go_sem] theorem ag93 : aggT Tryd.prog 93 = true := by kernel_rfl
@[go_sem] theorem by93 : Tryd.prog.bytesOf 93 = 32 := by kernel_rfl
@[go_sem] theorem un93 : (Tryd.prog.underlying 93).isNone = false := by kernel_rfl
@[go_sem] theorem zo93 : zerosOf Tryd.prog 93 = some [.nilP, .nilS] := by kernel_rfl
attribute [go_sem] Tryd.underlying93
@[go_sem] theorem gd93 : Tryd.prog.eqGuardType Tryd.prog.depth 93 = false := by kernel_rfl
@[go_sem] theorem st93 : Tryd.prog.stoodInHeld 93 = false := by kernel_rfl
@[go_sem] theorem eqs93 (d : Nat) (xs ys : List CV) : eqV Tryd.prog (d + 1) 93 (.agg xs) (.agg ys) = eqF Tryd.prog d xs ys (match Tryd.prog.underlying 93 with | some (.struct fs) => fs.toList | _ => []) := by rw [Tryd.underlying93]; exact eqV_struct Tryd.underlying93 st93 d xs ys
@[go_sem] theorem sz94 : szOf Tryd.prog 94 = some 2 := by kernel_rfl
@[go_sem] theorem ag94 : aggT Tryd.prog 94 = true := by kernel_rfl
@[go_sem] theorem by94 : Tryd.prog.bytesOf 94 = 32 := by kernel_rfl
@[go_sem] theorem un94 : (Tryd.prog.underlying 94).isNone = false := by kernel_rfl
@[go_sem] theorem zo94 : zerosOf Tryd.prog 94 = some [.nilP, .nilS] := by kernel_rfl
attribute [go_sem] Tryd.underlying94
@[go_sem] theorem gd94 : Tryd.prog.eqGuardType Tryd.prog.depth 94 = false := by kernel_rfl
@[go_sem] theorem st94 : Tryd.prog.stoodInHeld 94 = false := by kernel_rfl
@[go_sem] theorem eqs94 (d : Nat) (xs ys : List CV) : eqV Tryd.prog (d + 1) 94 (.agg xs) (.agg ys) = eqF Tryd.prog d xs ys (match Tryd.prog.underlying 94 with | some (.struct fs) => fs.toList | _ => []) := by rw [Tryd.underlying94]; exact eqV_struct Tryd.underlying94 st94 d xs ys
@[go_sem] theorem sz115 : szOf Tryd.prog 115 = some 1 := by kernel_rfl
@[go_sem] theorem ag115 : aggT Tryd.prog 115 = false := by kernel_rfl
@[go_sem] theorem by115 : Tryd.prog.bytesOf 115 = 8 := by kernel_rfl
@[go_sem] theorem un115 : (Tryd.prog.underlying 115).isNone = false := by kernel_rfl
@[go_sem] theorem zo115 : zerosOf Tryd.prog 115 = some [.nilP] := by kernel_rfl
attribute [go_sem] Tryd.underlying115
@[go_sem] theorem sz121 : szOf Tryd.prog 121 = some 24 := by kernel_rfl
@[go_sem] theorem ag121 : aggT Tryd.prog 121 = true := by kernel_rfl
@[go_sem] theorem by121 : Tryd.prog.bytesOf 121 = 24 := by kernel_rfl
@[go_sem] theorem un121 : (Tryd.prog.underlying 121).isNone = false := by kernel_rfl
@[go_sem] theorem zo121 : zerosOf Tryd.prog 121 = some [.int .u8 0, .int .u8 0, .int .u8 0, .int .u8 0, .int .u8 0, .int .u8 0, .int .u8 0, .int .u8 0, .int .u8 0, .int .u8 0, .int .u8 0, .int .u8 0, .int .u8 0, .int .u8 0, .int .u8 0, .int .u8 0, .int .u8 0, .int .u8 0, .int .u8 0, .int .u8 0, .int .u8 0, .int .u8 0, .int .u8 0, .int .u8 0] := by kernel_rfl
attribute [go_sem] Tryd.underlying121
@[go_sem] theorem gd121 : Tryd.prog.eqGuardType Tryd.prog.depth 121 = false := by kernel_rfl
@[go_sem] theorem eqb121 (l1 l2 : List UInt8) (h1 : l1.length = 24) (h2 : l2.length = 24) (d : Nat) : eqV Tryd.prog (d + 2) 121 (.agg (l1.map byteC)) (.agg (l2.map byteC)) = some (l1 == l2) := eqV_bytes Tryd.underlying121 Tryd.underlying5 (by kernel_rfl) (by kernel_rfl) l1 l2 h1 h2
@[go_sem] theorem eqz121 (l1 : List UInt8) (h1 : l1.length = 24) (d : Nat) : eqV Tryd.prog (d + 2) 121 (.agg (l1.map byteC)) (.agg [.int .u8 0, .int .u8 0, .int .u8 0, .int .u8 0, .int .u8 0, .int .u8 0, .int .u8 0, .int .u8 0, .int .u8 0, .int .u8 0, .int .u8 0, .int .u8 0, .int .u8 0, .int .u8 0, .int .u8 0, .int .u8 0, .int .u8 0, .int .u8 0, .int .u8 0, .int .u8 0, .int .u8 0, .int .u8 0, .int .u8 0, .int .u8 0]) = some (l1 == List.replicate 24 0) := eqb121 l1 (List.replicate 24 0) h1 rfl d
@[go_sem] theorem sz122 : szOf Tryd.prog 122 = some 1 := by kernel_rfl
@[go_sem] theorem ag122 : aggT Tryd.prog 122 = false := by kernel_rfl
@[go_sem] theorem by122 : Tryd.prog.bytesOf 122 = 8 := by kernel_rfl
@[go_sem] theorem un122 : (Tryd.prog.underlying 122).isNone = false := by kernel_rfl
@[go_sem] theorem zo122 : zerosOf Tryd.prog 122 = some [.int .u64 0] := by kernel_rfl
attribute [go_sem] Tryd.underlying122
@[go_sem] theorem eql122 (d : Nat) (k : IntKind) (a b : Int) : eqV Tryd.prog (d + 1) 122 (.int k a) (.int k b) = some (a == b) := eqV_int Tryd.underlying122 d k a b
@[go_sem] theorem sz128 : szOf Tryd.prog 128 = some 1 := by kernel_rfl
@[go_sem] theorem ag128 : aggT Tryd.prog 128 = false := by kernel_rfl
@[go_sem] theorem by128 : Tryd.prog.bytesOf 128 = 4 := by kernel_rfl
@[go_sem] theorem un128 : (Tryd.prog.underlying 128).isNone = false := by kernel_rfl
@[go_sem] theorem zo128 : zerosOf Tryd.prog 128 = some [.int .u32 0] := by kernel_rfl
attribute [go_sem] Tryd.underlying128
@[go_sem] theorem eql128 (d : Nat) (k : IntKind) (a b : Int) : eqV Tryd.prog (d + 1) 128 (.int k a) (.int k b) = some (a == b) := eqV_int Tryd.underlying128 d k a b
@[go_sem] theorem sz131 : szOf Tryd.prog 131 = some 1 := by kernel_rfl
@[go_sem] theorem ag131 : aggT Tryd.prog 131 = false := by kernel_rfl
@[go_sem] theorem by131 : Tryd.prog.bytesOf 131 = 8 := by kernel_rfl
@[go_sem] theorem un131 : (Tryd.prog.underlying 131).isNone = false := by kernel_rfl
@[go_sem] theorem zo131 : zerosOf Tryd.prog 131 = some [.nilP] := by kernel_rfl
attribute [go_sem] Tryd.underlying131
@[go_sem] theorem sz135 : szOf Tryd.prog 135 = some 20 := by kernel_rfl
@[go_sem] theorem ag135 : aggT Tryd.prog 135 = true := by kernel_rfl
@[go_sem] theorem by135 : Tryd.prog.bytesOf 135 = 160 := by kernel_rfl
@[go_sem] theorem un135 : (Tryd.prog.underlying 135).isNone = false := by kernel_rfl
@[go_sem] theorem zo135 : zerosOf Tryd.prog 135 = some [.int .u64 0, .int .u64 0, .int .u64 0, .int .u64 0, .int .u64 0, .int .u64 0, .int .u64 0, .int .u64 0, .int .u64 0, .int .u64 0, .int .u64 0, .int .u64 0, .int .u64 0, .int .u64 0, .int .u64 0, .int .u64 0, .int .u64 0, .int .u64 0, .int .u64 0, .int .u64 0] := by kernel_rfl
attribute [go_sem] Tryd.underlying135
@[go_sem] theorem gd135 : Tryd.prog.eqGuardType Tryd.prog.depth 135 = false := by kernel_rfl
@[go_sem] theorem sz136 : szOf Tryd.prog 136 = some 65 := by kernel_rfl
@[go_sem] theorem ag136 : aggT Tryd.prog 136 = true := by kernel_rfl
@[go_sem] theorem by136 : Tryd.prog.bytesOf 136 = 65 := by kernel_rfl
@[go_sem] theorem un136 : (Tryd.prog.underlying 136).isNone = false := by kernel_rfl
@[go_sem] theorem zo136 : zerosOf Tryd.prog 136 = some [.int .u8 0, .int .u8 0, .int .u8 0, .int .u8 0, .int .u8 0, .int .u8 0, .int .u8 0, .int .u8 0, .int .u8 0, .int .u8 0, .int .u8 0, .int .u8 0, .int .u8 0, .int .u8 0, .int .u8 0, .int .u8 0, .int .u8 0, .int .u8 0, .int .u8 0, .int .u8 0, .int .u8 0, .int .u8 0, .int .u8 0, .int .u8 0, .int .u8 0, .int .u8 0, .int .u8 0, .int .u8 0, .int .u8 0, .int .u8 0, .int .u8 0, .int .u8 0, .int .u8 0, .int .u8 0, .int .u8 0, .int .u8 0, .int .u8 0, .int .u8 0, .int .u8 0, .int .u8 0, .int .u8 0, .int .u8 0, .int .u8 0, .int .u8 0, .int .u8 0, .int .u8 0, .int .u8 0, .int .u8 0, .int .u8 0, .int .u8 0, .int .u8 0, .int .u8 0, .int .u8 0, .int .u8 0, .int .u8 0, .int .u8 0, .int .u8 0, .int .u8 0, .int .u8 0, .int .u8 0, .int .u8 0, .int .u8 0, .int .u8 0, .int .u8 0, .int .u8 0] := by kernel_rfl
attribute [go_sem] Tryd.underlying136
@[go_sem] theorem gd136 : Tryd.prog.eqGuardType Tryd.prog.depth 136 = false := by kernel_rfl
@[go_sem] theorem eqb136 (l1 l2 : List UInt8) (h1 : l1.length = 65) (h2 : l2.length = 65) (d : Nat) : eqV Tryd.prog (d + 2) 136 (.agg (l1.map byteC)) (.agg (l2.map byteC)) = some (l1 == l2) := eqV_bytes Tryd.underlying136 Tryd.underlying5 (by kernel_rfl) (by kernel_rfl) l1 l2 h1 h2
@[go_sem] theorem sz142 : szOf Tryd.prog 142 = some 64 := by kernel_rfl
@[go_sem] theorem ag142 : aggT Tryd.prog 142 = true := by kernel_rfl
@[go_sem] theorem by142 : Tryd.prog.bytesOf 142 = 64 := by kernel_rfl
@[go_sem] theorem un142 : (Tryd.prog.underlying 142).isNone = false := by kernel_rfl
@[go_sem] theorem zo142 : zerosOf Tryd.prog 142 = some [.int .u8 0, .int .u8 0, .int .u8 0, .int .u8 0, .int .u8 0, .int .u8 0, .int .u8 0, .int .u8 0, .int .u8 0, .int .u8 0, .int .u8 0, .int .u8 0, .int .u8 0, .int .u8 0, .int .u8 0, .int .u8 0, .int .u8 0, .int .u8 0, .int .u8 0, .int .u8 0, .int .u8 0, .int .u8 0, .int .u8 0, .int .u8 0, .int .u8 0, .int .u8 0, .int .u8 0, .int .u8 0, .int .u8 0, .int .u8 0, .int .u8 0, .int .u8 0, .int .u8 0, .int .u8 0, .int .u8 0, .int .u8 0, .int .u8 0, .int .u8 0, .int .u8 0, .int .u8 0, .int .u8 0, .int .u8 0, .int .u8 0, .int .u8 0, .int .u8 0, .int .u8 0, .int .u8 0, .int .u8 0, .int .u8 0, .int .u8 0, .int .u8 0, .int .u8 0, .int .u8 0, .int .u8 0, .int .u8 0, .int .u8 0, .int .u8 0, .int .u8 0, .int .u8 0, .int .u8 0, .int .u8 0, .int .u8 0, .int .u8 0, .int .u8 0] := by kernel_rfl
attribute [go_sem] Tryd.underlying142
@[go_sem] theorem gd142 : Tryd.prog.eqGuardType Tryd.prog.depth 142 = false := by kernel_rfl
@[go_sem] theorem eqb142 (l1 l2 : List UInt8) (h1 : l1.length = 64) (h2 : l2.length = 64) (d : Nat) : eqV Tryd.prog (d + 2) 142 (.agg (l1.map byteC)) (.agg (l2.map byteC)) = some (l1 == l2) := eqV_bytes Tryd.underlying142 Tryd.underlying5 (by kernel_rfl) (by kernel_rfl) l1 l2 h1 h2
@[go_sem] theorem eqz142 (l1 : List UInt8) (h1 : l1.length = 64) (d : Nat) : eqV Tryd.prog (d + 2) 142 (.agg (l1.map byteC)) (.agg [.int .u8 0, .int .u8 0, .int .u8 0, .int .u8 0, .int .u8 0, .int .u8 0, .int .u8 0, .int .u8 0, .int .u8 0, .int .u8 0, .int .u8 0, .int .u8 0, .int .u8 0, .int .u8 0, .int .u8 0, .int .u8 0, .int .u8 0, .int .u8 0, .int .u8 0, .int .u8 0, .int .u8 0, .int .u8 0, .int .u8 0, .int .u8 0, .int .u8 0, .int .u8 0, .int .u8 0, .int .u8 0, .int .u8 0, .int .u8 0, .int .u8 0, .int .u8 0, .int .u8 0, .int .u8 0, .int .u8 0, .int .u8 0, .int .u8 0, .int .u8 0, .int .u8 0, .int .u8 0, .int .u8 0, .int .u8 0, .int .u8 0, .int .u8 0, .int .u8 0, .int .u8 0, .int .u8 0, .int .u8 0, .int .u8 0, .int .u8 0, .int .u8 0, .int .u8 0, .int .u8 0, .int .u8 0, .int .u8 0, .int .u8 0, .int .u8 0, .int .u8 0, .int .u8 0, .int .u8 0, .int .u8 0, .int .u8 0, .int .u8 0, .int .u8 0]) = some (l1 == List.replicate 64 0) := eqb142 l1 (List.replicate 64 0) h1 rfl d
@[go_sem] theorem sz143 : szOf Tryd.prog 143 = some 256 := by kernel_rfl
@[go_sem] theorem ag143 : aggT Tryd.prog 143 = true := by kernel_rfl
@[go_sem] theorem by143 : Tryd.prog.bytesOf 143 = 256 := by kernel_rfl
@[go_sem] theorem un143 : (Tryd.prog.underlying 143).isNone = false := by kernel_rfl
@[go_sem] theorem zo143 : zerosOf Tryd.prog 143 = some [.int .u8 0, .int .u8 0, .int .u8 0, .int .u8 0, .int .u8 0, .int .u8 0, .int .u8 0, .int .u8 0, .int .u8 0, .int .u8 0, .int .u8 0, .int .u8 0, .int .u8 0, .int .u8 0, .int .u8 0, .int .u8 0, .int .u8 0, .int .u8 0, .int .u8 0, .int .u8 0, .int .u8 0, .int .u8 0, .int .u8 0, .int .u8 0, .int .u8 0, .int .u8 0, .int .u8 0, .int .u8 0, .int .u8 0, .int .u8 0, .int .u8 0, .int .u8 0, .int .u8 0, .int .u8 0, .int .u8 0, .int .u8 0, .int .u8 0, .int .u8 0, .int .u8 0, .int .u8 0, .int .u8 0, .int .u8 0, .int .u8 0, .int .u8 0, .int .u8 0, .int .u8 0, .int .u8 0, .int .u8 0, .int .u8 0, .int .u8 0, .int .u8 0, .int .u8 0, .int .u8 0, .int .u8 0, .int .u8 0, .int .u8 0, .int .u8 0, .int .u8 0, .int .u8 0, .int .u8 0, .int .u8 0, .int .u8 0, .int .u8 0, .int .u8 0, .int .u8 0, .int .u8 0, .int .u8 0, .int .u8 0, .int .u8 0, .int .u8 0, .int .u8 0, .int .u8 0, .int .u8 0, .int .u8 0, .int .u8 0, .int .u8 0, .int .u8 0, .int .u8 0, .int .u8 0, .int .u8 0, .int .u8 0, .int .u8 0, .int .u8 0, .int .u8 0, .int .u8 0, .int .u8 0, .int .u8 0, .int .u8 0, .int .u8 0, .int .u8 0, .int .u8 0, .int .u8 0, .int .u8 0, .int .u8 0, .int .u8 0, .int .u8 0, .int .u8 0, .int .u8 0, .int .u8 0, .int .u8 0, .int .u8 0, .int .u8 0, .int .u8 0, .int .u8 0, .int .u8 0, .int .u8 0, .int .u8 0, .int .u8 0, .int .u8 0, .int .u8 0, .int .u8 0, .int .u8 0, .int .u8 0, .int .u8 0, .int .u8 0, .int .u8 0, .int .u8 0, .int .u8 0, .int .u8 0, .int .u8 0, .int .u8 0, .int .u8 0, .int .u8 0, .int .u8 0, .int .u8 0, .int .u8 0, .int .u8 0, .int .u8 0, .int .u8 0, .int .u8 0, .int .u8 0, .int .u8 0, .int .u8 0, .int .u8 0, .int .u8 0, .int .u8 0, .int .u8 0, .int .u8 0, .int .u8 0, .int .u8 0, .int .u8 0, .int .u8 0, .int .u8 0, .int .u8 0, .int .u8 0, .int .u8 0, .int .u8 0, .int .u8 0, .int .u8 0, .int .u8 0, .int .u8 0, .int .u8 0, .int .u8 0, .int .u8 0, .int .u8 0, .int .u8 0, .int .u8 0, .int .u8 0, .int .u8 0, .int .u8 0, .int .u8 0, .int .u8 0, .int .u8 0, .int .u8 0, .int .u8 0, .int .u8 0, .int .u8 0, .int .u8 0, .int .u8 0, .int .u8 0, .int .u8 0, .int .u8 0, .int .u8 0, .int .u8 0, .int .u8 0, .int .u8 0, .int .u8 0, .int .u8 0, .int .u8 0, .int .u8 0, .int .u8 0, .int .u8 0, .int .u8 0, .int .u8 0, .int .u8 0, .int .u8 0, .int .u8 0, .int .u8 0, .int .u8 0, .int .u8 0, .int .u8 0, .int .u8 0, .int .u8 0, .int .u8 0, .int .u8 0, .int .u8 0, .int .u8 0, .int .u8 0, .int .u8 0, .int .u8 0, .int .u8 0, .int .u8 0, .int .u8 0, .int .u8 0, .int .u8 0, .int .u8 0, .int .u8 0, .int .u8 0, .int .u8 0, .int .u8 0, .int .u8 0, .int .u8 0, .int .u8 0, .int .u8 0, .int .u8 0, .int .u8 0, .int .u8 0, .int .u8 0, .int .u8 0, .int .u8 0, .int .u8 0, .int .u8 0, .int .u8 0, .int .u8 0, .int .u8 0, .int .u8 0, .int .u8 0, .int .u8 0, .int .u8 0, .int .u8 0, .int .u8 0, .int .u8 0, .int .u8 0, .int .u8 0, .int .u8 0, .int .u8 0, .int .u8 0, .int .u8 0, .int .u8 0, .int .u8 0, .int .u8 0, .int .u8 0, .int .u8 0, .int .u8 0, .int .u8 0, .int .u8 0, .int .u8 0, .int .u8 0, .int .u8 0, .int .u8 0, .int .u8 0, .int .u8 0, .int .u8 0, .int .u8 0, .int .u8 0, .int .u8 0] := by kernel_rfl
attribute [go_sem] Tryd.underlying143
@[go_sem] theorem gd143 : Tryd.prog.eqGuardType Tryd.prog.depth 143 = false := by kernel_rfl
@[go_sem] theorem eqb143 (l1 l2 : List UInt8) (h1 : l1.length = 256) (h2 : l2.length = 256) (d : Nat) : eqV Tryd.prog (d + 2) 143 (.agg (l1.map byteC)) (.agg (l2.map byteC)) = some (l1 == l2) := eqV_bytes Tryd.underlying143 Tryd.underlying5 (by kernel_rfl) (by kernel_rfl) l1 l2 h1 h2
@[go_sem] theorem sz144 : szOf Tryd.prog 144 = some 2 := by kernel_rfl
@[go_sem] theorem ag144 : aggT Tryd.prog 144 = true := by kernel_rfl
@[go_sem] theorem by144 : Tryd.prog.bytesOf 144 = 2 := by kernel_rfl
@[go_sem] theorem un144 : (Tryd.prog.underlying 144).isNone = false := by kernel_rfl
@[go_sem] theorem zo144 : zerosOf Tryd.prog 144 = some [.int .u8 0, .int .u8 0] := by kernel_rfl
attribute [go_sem] Tryd.underlying144
@[go_sem] theorem gd144 : Tryd.prog.eqGuardType Tryd.prog.depth 144 = false := by kernel_rfl
@[go_sem] theorem st144 : Tryd.prog.stoodInHeld 144 = false := by kernel_rfl
@[go_sem] theorem eqs144 (d : Nat) (xs ys : List CV) : eqV Tryd.prog (d + 1) 144 (.agg xs) (.agg ys) = eqF Tryd.prog d xs ys (match Tryd.prog.underlying 144 with | some (.struct fs) => fs.toList | _ => []) := by rw [Tryd.underlying144]; exact eqV_struct Tryd.underlying144 st144 d xs ys
@[go_sem] theorem sz145 : szOf Tryd.prog 145 = some 2 := by kernel_rfl
@[go_sem] theorem ag145 : aggT Tryd.prog 145 = true := by kernel_rfl
@[go_sem] theorem by145 : Tryd.prog.bytesOf 145 = 2 := by kernel_rfl
@[go_sem] theorem un145 : (Tryd.prog.underlying 145).isNone = false := by kernel_rfl
@[go_sem] theorem zo145 : zerosOf Tryd.prog 145 = some [.int .u8 0, .int .u8 0] := by kernel_rfl
attribute [go_sem] Tryd.underlying145
@[go_sem] theorem gd145 : Tryd.prog.eqGuardType Tryd.prog.depth 145 = false := by kernel_rfl
@[go_sem] theorem st145 : Tryd.prog.stoodInHeld 145 = false := by kernel_rfl
@[go_sem] theorem eqs145 (d : Nat) (xs ys : List CV) : eqV Tryd.prog (d + 1) 145 (.agg xs) (.agg ys) = eqF Tryd.prog d xs ys (match Tryd.prog.underlying 145 with | some (.struct fs) => fs.toList | _ => []) := by rw [Tryd.underlying145]; exact eqV_struct Tryd.underlying145 st145 d xs ys
@[go_sem] theorem sz146 : szOf Tryd.prog 146 = some 32 := by kernel_rfl
@[go_sem] theorem ag146 : aggT Tryd.prog 146 = true := by kernel_rfl
@[go_sem] theorem by146 : Tryd.prog.bytesOf 146 = 32 := by kernel_rfl
@[go_sem] theorem un146 : (Tryd.prog.underlying 146).isNone = false := by kernel_rfl
@[go_sem] theorem zo146 : zerosOf Tryd.prog 146 = some [.int .u8 0, .int .u8 0, .int .u8 0, .int .u8 0, .int .u8 0, .int .u8 0, .int .u8 0, .int .u8 0, .int .u8 0, .int .u8 0, .int .u8 0, .int .u8 0, .int .u8 0, .int .u8 0, .int .u8 0, .int .u8 0, .int .u8 0, .int .u8 0, .int .u8 0, .int .u8 0, .int .u8 0, .int .u8 0, .int .u8 0, .int .u8 0, .int .u8 0, .int .u8 0, .int .u8 0, .int .u8 0, .int .u8 0, .int .u8 0, .int .u8 0, .int .u8 0] := by kernel_rfl
attribute [go_sem] Tryd.underlying146
@[go_sem] theorem gd146 : Tryd.prog.eqGuardType Tryd.prog.depth 146 = false := by kernel_rfl
@[go_sem] theorem sz147 : szOf Tryd.prog 147 = some 4 := by kernel_rfl
@[go_sem] theorem ag147 : aggT Tryd.prog 147 = true := by kernel_rfl
@[go_sem] theorem by147 : Tryd.prog.bytesOf 147 = 40 := by kernel_rfl
@[go_sem] theorem un147 : (Tryd.prog.underlying 147).isNone = false := by kernel_rfl
@[go_sem] theorem zo147 : zerosOf Tryd.prog 147 = some [.nilP, .nilP, .nilP, .str []] := by kernel_rfl
attribute [go_sem] Tryd.underlying147
@[go_sem] theorem gd147 : Tryd.prog.eqGuardType Tryd.prog.depth 147 = false := by kernel_rfl
@[go_sem] theorem sz148 : szOf Tryd.prog 148 = some 4 := by kernel_rfl
@[go_sem] theorem ag148 : aggT Tryd.prog 148 = true := by kernel_rfl
@[go_sem] theorem by148 : Tryd.prog.bytesOf 148 = 40 := by kernel_rfl
@[go_sem] theorem un148 : (Tryd.prog.underlying 148).isNone = false := by kernel_rfl
@[go_sem] theorem zo148 : zerosOf Tryd.prog 148 = some [.nilP, .nilP, .nilP, .str []] := by kernel_rfl
attribute [go_sem] Tryd.underlying148
@[go_sem] theorem gd148 : Tryd.prog.eqGuardType Tryd.prog.depth 148 = false := by kernel_rfl
@[go_sem] theorem sz149 : szOf Tryd.prog 149 = some 0 := by kernel_rfl
@[go_sem] theorem ag149 : aggT Tryd.prog 149 = true := by kernel_rfl
@[go_sem] theorem by149 : Tryd.prog.bytesOf 149 = 0 := by kernel_rfl
@[go_sem] theorem un149 : (Tryd.prog.underlying 149).isNone = false := by kernel_rfl
@[go_sem] theorem zo149 : zerosOf Tryd.prog 149 = some [] := by kernel_rfl
attribute [go_sem] Tryd.underlying149
@[go_sem] theorem gd149 : Tryd.prog.eqGuardType Tryd.prog.depth 149 = false := by kernel_rfl
@[go_sem] theorem sz150 : szOf Tryd.prog 150 = some 0 := by kernel_rfl
@[go_sem] theorem ag150 : aggT Tryd.prog 150 = true := by kernel_rfl
@[go_sem] theorem by150 : Tryd.prog.bytesOf 150 = 0 := by kernel_rfl
@[go_sem] theorem un150 : (Tryd.prog.underlying 150).isNone = false := by kernel_rfl
@[go_sem] theorem zo150 : zerosOf Tryd.prog 150 = some [] := by kernel_rfl
attribute [go_sem] Tryd.underlying150
@[go_sem] theorem gd150 : Tryd.prog.eqGuardType Tryd.prog.depth 150 = false := by kernel_rfl
@[go_sem] theorem sz151 : szOf Tryd.prog 151 = some 0 := by kernel_rfl
@[go_sem] theorem ag151 : aggT Tryd.prog 151 = true := by kernel_rfl
@[go_sem] theorem by151 : Tryd.prog.bytesOf 151 = 0 := by kernel_rfl
@[go_sem] theorem un151 : (Tryd.prog.underlying 151).isNone = false := by kernel_rfl
@[go_sem] theorem zo151 : zerosOf Tryd.prog 151 = some [] := by kernel_rfl
attribute [go_sem] Tryd.underlying151
@[go_sem] theorem gd151 : Tryd.prog.eqGuardType Tryd.prog.depth 151 = false := by kernel_rfl
@[go_sem] theorem sz153 : szOf Tryd.prog 153 = some 1 := by kernel_rfl
@[go_sem] theorem ag153 : aggT Tryd.prog 153 = false := by kernel_rfl
@[go_sem] theorem by153 : Tryd.prog.bytesOf 153 = 1 := by kernel_rfl
@[go_sem] theorem un153 : (Tryd.prog.underlying 153).isNone = false := by kernel_rfl
@[go_sem] theorem zo153 : zerosOf Tryd.prog 153 = some [.int .u8 0] := by kernel_rfl
attribute [go_sem] Tryd.underlying153
@[go_sem] theorem eql153 (d : Nat) (k : IntKind) (a b : Int) : eqV Tryd.prog (d + 1) 153 (.int k a) (.int k b) = some (a == b) := eqV_int Tryd.underlying153 d k a b
@[go_sem] theorem sz154 : szOf Tryd.prog 154 = some 1 := by kernel_rfl
@[go_sem] theorem ag154 : aggT Tryd.prog 154 = false := by kernel_rfl
@[go_sem] theorem by154 : Tryd.prog.bytesOf 154 = 1 := by kernel_rfl
@[go_sem] theorem un154 : (Tryd.prog.underlying 154).isNone = false := by kernel_rfl
@[go_sem] theorem zo154 : zerosOf Tryd.prog 154 = some [.int .u8 0] := by kernel_rfl
attribute [go_sem] Tryd.underlying154
@[go_sem] theorem eql154 (d : Nat) (k : IntKind) (a b : Int) : eqV Tryd.prog (d + 1) 154 (.int k a) (.int k b) = some (a == b) := eqV_int Tryd.underlying154 d k a b
@[go_sem] theorem sz156 : szOf Tryd.prog 156 = some 1 := by kernel_rfl
@[go_sem] theorem ag156 : aggT Tryd.prog 156 = false := by kernel_rfl
@[go_sem] theorem by156 : Tryd.prog.bytesOf 156 = 4 := by kernel_rfl
@[go_sem] theorem un156 : (Tryd.prog.underlying 156).isNone = false := by kernel_rfl
@[go_sem] theorem zo156 : zerosOf Tryd.prog 156 = some [.int .i32 0] := by kernel_rfl
attribute [go_sem] Tryd.underlying156
@[go_sem] theorem eql156 (d : Nat) (k : IntKind) (a b : Int) : eqV Tryd.prog (d + 1) 156 (.int k a) (.int k b) = some (a == b) := eqV_int Tryd.underlying156 d k a b
@[go_sem] theorem sz157 : szOf Tryd.prog 157 = some 1 := by kernel_rfl
@[go_sem] theorem ag157 : aggT Tryd.prog 157 = false := by kernel_rfl
@[go_sem] theorem by157 : Tryd.prog.bytesOf 157 = 4 := by kernel_rfl
@[go_sem] theorem un157 : (Tryd.prog.underlying 157).isNone = false := by kernel_rfl
@[go_sem] theorem zo157 : zerosOf Tryd.prog 157 = some [.int .i32 0] := by kernel_rfl
attribute [go_sem] Tryd.underlying157
@[go_sem] theorem eql157 (d : Nat) (k : IntKind) (a b : Int) : eqV Tryd.prog (d + 1) 157 (.int k a) (.int k b) = some (a == b) := eqV_int Tryd.underlying157 d k a b
@[go_sem] theorem sz158 : szOf Tryd.prog 158 = some 11 := by kernel_rfl
@[go_sem] theorem ag158 : aggT Tryd.prog 158 = true := by kernel_rfl
@[go_sem] theorem by158 : Tryd.prog.bytesOf 158 = 48 := by kernel_rfl
@[go_sem] theorem un158 : (Tryd.prog.underlying 158).isNone = false := by kernel_rfl
@[go_sem] theorem zo158 : zerosOf Tryd.prog 158 = some [.int .u64 0, .int .u64 0, .int .u32 0, .int .u8 0, .int .u8 0, .int .u8 0, .int .u8 0, .nilF, .nilP, .int .i32 0, .int .i32 0] := by kernel_rfl
attribute [go_sem] Tryd.underlying158
@[go_sem] theorem gd158 : Tryd.prog.eqGuardType Tryd.prog.depth 158 = false := by kernel_rfl
@[go_sem] theorem sz159 : szOf Tryd.prog 159 = some 11 := by kernel_rfl
@[go_sem] theorem ag159 : aggT Tryd.prog 159 = true := by kernel_rfl
@[go_sem] theorem by159 : Tryd.prog.bytesOf 159 = 48 := by kernel_rfl
@[go_sem] theorem un159 : (Tryd.prog.underlying 159).isNone = false := by kernel_rfl
@[go_sem] theorem zo159 : zerosOf Tryd.prog 159 = some [.int .u64 0, .int .u64 0, .int .u32 0, .int .u8 0, .int .u8 0, .int .u8 0, .int .u8 0, .nilF, .nilP, .int .i32 0, .int .i32 0] := by kernel_rfl
attribute [go_sem] Tryd.underlying159
@[go_sem] theorem gd159 : Tryd.prog.eqGuardType Tryd.prog.depth 159 = false := by kernel_rfl
theorem ca6 : callable Tryd.prog 6 = true := by kernel_rfl
theorem ca7 : callable Tryd.prog 7 = true := by kernel_rfl
theorem ca8 : callable Tryd.prog 8 = true := by kernel_rfl
theorem ca9 : callable Tryd.prog 9 = true := by kernel_rfl
theorem ca11 : callable Tryd.prog 11 = true := by kernel_rfl
theorem ca12 : callable Tryd.prog 12 = true := by kernel_rfl
theorem ca13 : callable Tryd.prog 13 = true := by kernel_rfl
theorem ca15 : callable Tryd.prog 15 = true := by kernel_rfl
theorem ca16 : callable Tryd.prog 16 = true := by kernel_rfl
theorem ca17 : callable Tryd.prog 17 = true := by kernel_rfl
theorem ca18 : callable Tryd.prog 18 = true := by kernel_rfl
theorem ca19 : callable Tryd.prog 19 = true := by kernel_rfl
theorem ca21 : callable Tryd.prog 21 = true := by kernel_rfl
theorem ca22 : callable Tryd.prog 22 = true := by kernel_rfl
theorem ca23 : callable Tryd.prog 23 = true := by kernel_rfl
theorem ca24 : callable Tryd.prog 24 = true := by kernel_rfl
theorem ca26 : callable Tryd.prog 26 = true := by kernel_rfl
theorem ca27 : callable Tryd.prog 27 = true := by kernel_rfl
theorem ca28 : callable Tryd.prog 28 = true := by kernel_rfl
theorem ca29 : callable Tryd.prog 29 = true := by kernel_rfl
theorem ca30 : callable Tryd.prog 30 = true := by kernel_rfl
theorem ca31 : callable Tryd.prog 31 = true := by kernel_rfl
theorem ca32 : callable Tryd.prog 32 = true := by kernel_rfl
theorem ca33 : callable Tryd.prog 33 = true := by kernel_rfl
theorem ca34 : callable Tryd.prog 34 = true := by kernel_rfl
theorem ca35 : callable Tryd.prog 35 = true := by kernel_rfl
theorem ca36 : callable Tryd.prog 36 = true := by kernel_rfl
theorem ca40 : callable Tryd.prog 40 = true := by kernel_rfl
theorem ca41 : callable Tryd.prog 41 = true := by kernel_rfl
theorem ca44 : callable Tryd.prog 44 = true := by kernel_rfl
theorem ca45 : callable Tryd.prog 45 = true := by kernel_rfl
theorem ca47 : callable Tryd.prog 47 = true := by kernel_rfl
theorem ca48 : callable Tryd.prog 48 = true := by kernel_rfl
theorem ca53 : callable Tryd.prog 53 = true := by kernel_rfl
theorem ca54 : callable Tryd.prog 54 = true := by kernel_rfl
theorem ca55 : callable Tryd.prog 55 = true := by kernel_rfl
theorem ca57 : callable Tryd.prog 57 = true := by kernel_rfl
theorem ca58 : callable Tryd.prog 58 = true := by kernel_rfl
theorem ca60 : callable Tryd.prog 60 = true := by kernel_rfl
theorem ca61 : callable Tryd.prog 61 = true := by kernel_rfl
theorem ca62 : callable Tryd.prog 62 = true := by kernel_rfl
theorem ca63 : callable Tryd.prog 63 = true := by kernel_rfl
theorem ca64 : callable Tryd.prog 64 = true := by kernel_rfl
theorem ca65 : callable Tryd.prog 65 = true := by kernel_rfl
theorem ca66 : callable Tryd.prog 66 = true := by kernel_rfl
theorem ca67 : callable Tryd.prog 67 = true := by kernel_rfl
theorem ca68 : callable Tryd.prog 68 = true := by kernel_rfl
theorem ca69 : callable Tryd.prog 69 = true := by kernel_rfl
theorem ca75 : callable Tryd.prog 75 = true := by kernel_rfl
theorem ca78 : callable Tryd.prog 78 = true := by kernel_rfl
theorem ca79 : callable Tryd.prog 79 = true := by kernel_rfl
theorem ca87 : callable Tryd.prog 87 = true := by kernel_rfl
theorem ca88 : callable Tryd.prog 88 = true := by kernel_rfl
theorem ca89 : callable Tryd.prog 89 = true := by kernel_rfl
theorem ca90 : callable Tryd.prog 90 = true := by kernel_rfl
theorem ca91 : callable Tryd.prog 91 = true := by kernel_rfl
theorem ca96 : callable Tryd.prog 96 = true := by kernel_rfl
theorem ca104 : callable Tryd.prog 104 = true := by kernel_rfl
theorem ca108 : callable Tryd.prog 108 = true := by kernel_rfl
theorem ca109 : callable Tryd.prog 109 = true := by kernel_rfl
theorem ca119 : callable Tryd.prog 119 = true := by kernel_rfl
end Go.Proofs.YtdceppjoipoohaaDoor
end
section
namespace Go.Proofs.YtdceppjoipoohaaDoor
open Go Go.Sy
set_option linter.all false
set_option maxRecDepth 100000
set_option maxHeartbeats 4000000
theorem bytes_mid (l m : List UInt8) (x : UInt8) : l.map byteC ++ byteC x :: m.map byteC = (l ++ x :: m).map byteC := by simp
section
variable {α : Type} {l m : List α} {n : Nat}
theorem take_all (h : l.length ≤ n) : l.take n = l := List.take_of_length_le h
theorem drop_all (h : l.length ≤ n) : l.drop n = [] := List.drop_eq_nil_of_le h
theorem take_app (h : l.length ≤ n) : (l ++ m).take n = l ++ m.take (n - l.length) := by rw [List.take_append, List.take_of_length_le h]
theorem drop_app (h : l.length ≤ n) : (l ++ m).drop n = m.drop (n - l.length) := by rw [List.drop_append, List.drop_eq_nil_of_le h, List.nil_append]
theorem take_app' (h : n ≤ l.length) : (l ++ m).take n = l.take n := List.take_append_of_le_length h
theorem drop_app' (h : n ≤ l.length) : (l ++ m).drop n = l.drop n ++ m := List.drop_append_of_le_length h
end
section
variable {l : List UInt8} {m : List CV} {n : Nat}
theorem take_bapp (h : l.length ≤ n) : (l.map byteC ++ m).take n = l.map byteC ++ m.take (n - l.length) := by rw [take_app (by simpa using h)]; simp
theorem drop_bapp (h : l.length ≤ n) : (l.map byteC ++ m).drop n = m.drop (n - l.length) := by rw [drop_app (by simpa using h)]; simp
theorem take_bapp' (h : n ≤ l.length) : (l.map byteC ++ m).take n = (l.take n).map byteC := by rw [take_app' (by simpa using h), bytes_take]
theorem drop_bapp' (h : n ≤ l.length) : (l.map byteC ++ m).drop n = (l.drop n).map byteC ++ m := by rw [drop_app' (by simpa using h), bytes_drop]
end
attribute [go_sem] take_all drop_all take_app drop_app take_app' drop_app' take_bapp drop_bapp take_bapp' drop_bapp'
theorem fdivL0 (a : Int) : a.fdiv 1 = a / 1 := Int.fdiv_eq_ediv_of_nonneg a (by omega)
theorem fdivL1 (a : Int) : a.fdiv 2 = a / 2 := Int.fdiv_eq_ediv_of_nonneg a (by omega)
theorem fdivL2 (a : Int) : a.fdiv 4 = a / 4 := Int.fdiv_eq_ediv_of_nonneg a (by omega)
theorem fdivL3 (a : Int) : a.fdiv 8 = a / 8 := Int.fdiv_eq_ediv_of_nonneg a (by omega)
theorem fdivL4 (a : Int) : a.fdiv 16 = a / 16 := Int.fdiv_eq_ediv_of_nonneg a (by omega)
theorem fdivL5 (a : Int) : a.fdiv 32 = a / 32 := Int.fdiv_eq_ediv_of_nonneg a (by omega)
theorem fdivL6 (a : Int) : a.fdiv 64 = a / 64 := Int.fdiv_eq_ediv_of_nonneg a (by omega)
theorem fdivL7 (a : Int) : a.fdiv 128 = a / 128 := Int.fdiv_eq_ediv_of_nonneg a (by omega)
theorem fdivL8 (a : Int) : a.fdiv 256 = a / 256 := Int.fdiv_eq_ediv_of_nonneg a (by omega)
theorem fdivL9 (a : Int) : a.fdiv 512 = a / 512 := Int.fdiv_eq_ediv_of_nonneg a (by omega)
theorem fdivL10 (a : Int) : a.fdiv 1024 = a / 1024 := Int.fdiv_eq_ediv_of_nonneg a (by omega)
theorem fdivL11 (a : Int) : a.fdiv 2048 = a / 2048 := Int.fdiv_eq_ediv_of_nonneg a (by omega)
theorem fdivL12 (a : Int) : a.fdiv 4096 = a / 4096 := Int.fdiv_eq_ediv_of_nonneg a (by omega)
theorem fdivL13 (a : Int) : a.fdiv 8192 = a / 8192 := Int.fdiv_eq_ediv_of_nonneg a (by omega)
theorem fdivL14 (a : Int) : a.fdiv 16384 = a / 16384 := Int.fdiv_eq_ediv_of_nonneg a (by omega)
theorem fdivL15 (a : Int) : a.fdiv 32768 = a / 32768 := Int.fdiv_eq_ediv_of_nonneg a (by omega)
theorem fdivL16 (a : Int) : a.fdiv 65536 = a / 65536 := Int.fdiv_eq_ediv_of_nonneg a (by omega)
theorem fdivL24 (a : Int) : a.fdiv 16777216 = a / 16777216 := Int.fdiv_eq_ediv_of_nonneg a (by omega)
theorem fdivL31 (a : Int) : a.fdiv 2147483648 = a / 2147483648 := Int.fdiv_eq_ediv_of_nonneg a (by omega)
theorem fdivL32 (a : Int) : a.fdiv 4294967296 = a / 4294967296 := Int.fdiv_eq_ediv_of_nonneg a (by omega)
theorem fdivL40 (a : Int) : a.fdiv 1099511627776 = a / 1099511627776 := Int.fdiv_eq_ediv_of_nonneg a (by omega)
theorem fdivL48 (a : Int) : a.fdiv 281474976710656 = a / 281474976710656 := Int.fdiv_eq_ediv_of_nonneg a (by omega)
theorem fdivL56 (a : Int) : a.fdiv 72057594037927936 = a / 72057594037927936 := Int.fdiv_eq_ediv_of_nonneg a (by omega)
theorem fdivL62 (a : Int) : a.fdiv 4611686018427387904 = a / 4611686018427387904 := Int.fdiv_eq_ediv_of_nonneg a (by omega)
theorem fdivL63 (a : Int) : a.fdiv 9223372036854775808 = a / 9223372036854775808 := Int.fdiv_eq_ediv_of_nonneg a (by omega)
attribute [go_sem] fdivL0 fdivL1 fdivL2 fdivL3 fdivL4 fdivL5 fdivL6 fdivL7 fdivL8 fdivL9 fdivL10 fdivL11 fdivL12 fdivL13 fdivL14 fdivL15 fdivL16 fdivL24 fdivL31 fdivL32 fdivL40 fdivL48 fdivL56 fdivL62 fdivL63
theorem head_bytes {l : List UInt8} (h : 0 < l.length) : (l.map byteC).head? = some (byteC l[0]) := by cases l with | nil => simp at h | cons x l => rfl
attribute [go_sem] head_bytes
theorem toNat_ediv' {a b : Int} (ha : 0 ≤ a) (hb : 0 ≤ b) : (a / b).toNat = a.toNat / b.toNat := by
  obtain ⟨m, rfl⟩ := Int.eq_ofNat_of_zero_le ha; obtain ⟨n, rfl⟩ := Int.eq_ofNat_of_zero_le hb
  rw [← Int.natCast_ediv, Int.toNat_natCast, Int.toNat_natCast, Int.toNat_natCast]
theorem toNat_emod' {a b : Int} (ha : 0 ≤ a) (hb : 0 ≤ b) : (a % b).toNat = a.toNat % b.toNat := by
  obtain ⟨m, rfl⟩ := Int.eq_ofNat_of_zero_le ha; obtain ⟨n, rfl⟩ := Int.eq_ofNat_of_zero_le hb
  rw [← Int.natCast_emod, Int.toNat_natCast, Int.toNat_natCast, Int.toNat_natCast]
theorem toNat_succ' {a : Int} (ha : 0 ≤ a) : (a + 1).toNat = a.toNat + 1 := by omega
attribute [go_sem] toNat_ediv' toNat_emod' toNat_succ'
theorem i64_or_nat (a b : Nat) (ha : a < 9223372036854775808) (hb : b < 9223372036854775808) : bits .or .i64 (a : Int) (b : Int) = ((a ||| b : Nat) : Int) := by
  have hx : a ||| b < 2 ^ 63 := Nat.or_lt_two_pow (by omega) (by omega)
  show IntKind.i64.wrap ((BitVec.ofInt 64 (a : Int) ||| BitVec.ofInt 64 (b : Int)).toNat : Int) = _
  rw [BitVec.toNat_or, ofInt_u64 a (by omega), ofInt_u64 b (by omega), wi64 (by omega)]
theorem or_even {n : Nat} {x : Int} (hn : n < 4611686018427387904) : bits .or .i64 ((n : Int) * 2) (x % 2) = (n : Int) * 2 + x % 2 := by
  obtain ⟨b, hb, hx⟩ : ∃ b : Nat, b < 2 ∧ x % 2 = b := ⟨(x % 2).toNat, by omega, by omega⟩
  rw [hx, show ((n : Int) * 2) = ((2 * n : Nat) : Int) by omega, i64_or_nat _ _ (by omega) (by omega), nat_join1 _ _ (by omega) hb]; omega
theorem div_pow_lt {n : Nat} (m : Nat) {b : Int} (h : (n : Int) < b) : 0 ≤ (n : Int) / 2 ^ m ∧ (n : Int) / 2 ^ m < b := by
  have : ((n : Int) / 2 ^ m) = ((n / 2 ^ m : Nat) : Int) := by rw [Int.natCast_ediv]; simp
  have h2 := Nat.div_le_self n (2 ^ m)
  rw [this]; generalize n / 2 ^ m = d at h2 ⊢; omega
theorem and1_u8 {x : Int} (h : 0 ≤ x ∧ x < 256) : bits .and .u8 x 1 = x % 2 := by
  obtain ⟨n, rfl⟩ := Int.eq_ofNat_of_zero_le h.1
  have := u8_and_nat n 1 (by omega) (by omega)
  rw [show ((1 : Nat) : Int) = 1 from rfl] at this
  rw [this, show (1 : Nat) = 2 ^ 1 - 1 from rfl, Nat.and_two_pow_sub_one_eq_mod]; omega
def Grow (B0 : List Box) (sz : Nat) (c : CV) (B : List Box) (n : Nat) (cells : List CV) : Prop :=
  cells.length = n * sz ∧ ((n = 0 ∧ (c = .nilS ∨ c = .lst 0 [] true) ∧ B = B0) ∨ (0 < n ∧ ∃ m, c = .view B0.length 0 n sz false ∧ B = B0 ++ [⟨cells, m⟩]))
theorem Grow.nil (B0 : List Box) (sz : Nat) : Grow B0 sz .nilS B0 0 [] := ⟨by simp, .inl ⟨rfl, .inl rfl, rfl⟩⟩
theorem Grow.app {P : Program} {e : TypeId} {B0 : List Box} {sz : Nat} {c : CV} {B : List Box} {n : Nat} {cells : List CV} (h : Grow B0 sz c B n cells) (x : CV) (m : Nat) (news : List CV) (hx : srcC B sz x = some (m, news)) (hm : news.length = m * sz)
    (hb : (n + m) * P.bytesOf e ≤ 140737488355328 ∧ n + m ≤ 140737488355328) : ∃ c' B', appendK P e sz B c x = some (c', B') ∧ Grow B0 sz c' B' (n + m) (cells ++ news) := by
  obtain ⟨hl, h⟩ := h
  rcases Nat.eq_zero_or_pos m with rfl | hp
  · have hnil : news = [] := List.eq_nil_of_length_eq_zero (by simpa using hm)
    subst hnil
    refine ⟨c, B, ?_, by simpa using hl, by simpa using h⟩
    simp only [appendK]
    rcases h with ⟨_, rfl | rfl, _⟩ | ⟨_, _, rfl, _⟩ <;> simp [hx, appendM_nilS, appendM_lst, appendM_view]
  · rcases h with ⟨rfl, rfl | rfl, rfl⟩ | ⟨h0, k, rfl, rfl⟩
    · have hc : cells = [] := List.eq_nil_of_length_eq_zero (by simpa using hl)
      subst hc
      refine ⟨.view B.length 0 m sz false, B ++ [{ cells := news }], ?_, by simpa using hm, .inr ⟨by omega, false, by simp, by simp⟩⟩
      simp only [appendK]
      rw [Nat.zero_add] at hb
      simp [hx, appendM_nilS, appendM_lst, appendM_view, Nat.pos_iff_ne_zero.1 hp, hb]
    · have hc : cells = [] := List.eq_nil_of_length_eq_zero (by simpa using hl)
      subst hc
      refine ⟨.view B.length 0 m sz false, B ++ [{ cells := news }], ?_, by simpa using hm, .inr ⟨by omega, false, by simp, by simp⟩⟩
      simp only [appendK]
      rw [Nat.zero_add] at hb
      simp [hx, appendM_nilS, appendM_lst, appendM_view, Nat.pos_iff_ne_zero.1 hp, hb]
    · refine ⟨.view B0.length 0 (n + m) sz false, B0 ++ [⟨cells ++ news, true⟩], ?_, by simp [hl, hm, Nat.add_mul], .inr ⟨by omega, true, rfl, rfl⟩⟩
      simp only [appendK]
      simp [hx, appendM_nilS, appendM_lst, appendM_view, Nat.pos_iff_ne_zero.1 hp, hb, hl]
theorem Grow.fz {B0 : List Box} {sz : Nat} {c : CV} {B : List Box} {n : Nat} {cells : List CV} (h : Grow B0 sz c B n cells) (k : Nat) (hs : omap (fz true true B k) cells = some cells) : fz true true B (k + 1) c = some (.lst n cells false) := by
  obtain ⟨hl, ⟨rfl, rfl | rfl, rfl⟩ | ⟨h0, m, rfl, rfl⟩⟩ := h
  · have : cells = [] := List.eq_nil_of_length_eq_zero (by simpa using hl)
    subst this; simp [fz_nilS]
  · have : cells = [] := List.eq_nil_of_length_eq_zero (by simpa using hl)
    subst this; simp [fz_lst, omap_nil]
  · rw [fz_view]
    simp only [List.getElem?_concat_length, List.drop_zero]
    rw [List.take_of_length_le (by omega), hs]; simp
theorem Grow.view {B0 : List Box} {sz : Nat} {c : CV} {B : List Box} {n : Nat} {cells : List CV} (h : Grow B0 sz c B n cells) (hn : 0 < n) : ∃ m, c = .view B0.length 0 n sz false ∧ B = B0 ++ [⟨cells, m⟩] := by
  obtain ⟨_, ⟨rfl, _⟩ | ⟨_, m, h1, h2⟩⟩ := h
  · omega
  · exact ⟨m, h1, h2⟩
theorem Grow.old {B0 : List Box} {sz : Nat} {c : CV} {B : List Box} {n : Nat} {cells : List CV} (h : Grow B0 sz c B n cells) {b : Nat} {box : Box} (hb : B0[b]? = some box) : B[b]? = some box := by
  obtain ⟨hl, ⟨rfl, _, rfl⟩ | ⟨h0, m, rfl, rfl⟩⟩ := h
  · exact hb
  · rw [List.getElem?_append_left (List.getElem?_eq_some_iff.1 hb).1]; exact hb
theorem omap_app {f : CV → Option CV} : ∀ {a b : List CV}, omap f (a ++ b) = (omap f a).bind fun x => (omap f b).map (x ++ ·)
  | [], b => by rw [List.nil_append, omap_nil]; cases omap f b <;> rfl
  | c :: a, b => by rw [List.cons_append, omap_two, omap_two, omap_app]; cases f c <;> cases omap f a <;> cases omap f b <;> rfl
attribute [go_sem] omap_app
abbrev GrowB (B0 : List Box) (c : CV) (B : List Box) (l : List UInt8) : Prop := Grow B0 1 c B l.length (l.map byteC)
theorem GrowB.app {P : Program} {e : TypeId} {B0 : List Box} {c : CV} {B : List Box} {l : List UInt8} (h : GrowB B0 c B l) (x : CV) (m : List UInt8) (hx : srcC B 1 x = some (m.length, m.map byteC)) (he : P.bytesOf e = 1) (hb : l.length + m.length ≤ 140737488355328) :
    ∃ c' B', appendK P e 1 B c x = some (c', B') ∧ GrowB B0 c' B' (l ++ m) := by
  obtain ⟨c', B', h1, h2⟩ := Grow.app (P := P) (e := e) h x m.length (m.map byteC) hx (by simp) (by rw [he]; omega)
  exact ⟨c', B', h1, by simpa [GrowB] using h2⟩
theorem GrowB.fz {B0 : List Box} {c : CV} {B : List Box} {l : List UInt8} (h : GrowB B0 c B l) (k : Nat) : Go.Sy.fz true true B (k + 2) c = some (lb l) := Grow.fz h (k + 1) (omap_bytes l)
end Go.Proofs.YtdceppjoipoohaaDoor
end
section
namespace Go.Proofs.YtdceppjoipoohaaDoor
open Go Go.Sy
set_option linter.all false
set_option maxRecDepth 100000
set_option maxHeartbeats 4000000
section
variable {α : Type} {f : α → List CV} {n : Nat}
theorem fl_len : ∀ {l : List α}, (∀ a ∈ l, (f a).length = n) → (l.flatMap f).length = l.length * n
  | [], _ => by simp
  | a :: l, hf => by rw [List.flatMap_cons, List.length_append, fl_len fun b hb => hf b (by simp [hb]), hf a (by simp), List.length_cons, Nat.succ_mul, Nat.add_comm]
theorem fl_drop : ∀ {l : List α} (i : Nat), (∀ a ∈ l, (f a).length = n) → (l.flatMap f).drop (i * n) = (l.drop i).flatMap f
  | l, 0, _ => by simp
  | [], i + 1, _ => by simp
  | a :: l, i + 1, hf => by
    rw [List.flatMap_cons, List.drop_succ_cons, Nat.succ_mul, Nat.add_comm, ← List.drop_drop, List.drop_left' (hf a (by simp)), fl_drop i fun b hb => hf b (by simp [hb])]
theorem fl_take : ∀ {l : List α} (i : Nat), (∀ a ∈ l, (f a).length = n) → (l.flatMap f).take (i * n) = (l.take i).flatMap f
  | l, 0, _ => by simp
  | [], i + 1, _ => by simp
  | a :: l, i + 1, hf => by
    have ha := hf a (by simp)
    rw [List.flatMap_cons, List.take_succ_cons, List.flatMap_cons, Nat.succ_mul, Nat.add_comm, List.take_append, List.take_of_length_le (by rw [ha]; omega), ha, Nat.add_sub_cancel_left, fl_take i fun b hb => hf b (by simp [hb])]
theorem fl_get {l : List α} (hf : ∀ a ∈ l, (f a).length = n) (i : Nat) (h : i < l.length) : ((l.flatMap f).drop (i * n)).take n = f l[i] := by
  rw [fl_drop i hf, List.drop_eq_getElem_cons h, List.flatMap_cons, List.take_left' (hf _ (List.getElem_mem h))]
end
end Go.Proofs.YtdceppjoipoohaaDoor
end
section
namespace Go.Proofs.YtdceppjoipoohaaDoor
open Go Go.Sy
set_option linter.all false
set_option maxRecDepth 100000
set_option maxHeartbeats 4000000
section
variable {L X : List Box} {n i : Nat} {y : Box}
theorem bx_get0 (h : L.length = n) : (L ++ X)[n]? = X[0]? := by subst h; rw [List.getElem?_append_right (Nat.le_refl _), Nat.sub_self]
theorem bx_get (h : L.length = n) : (L ++ X)[n + i]? = X[i]? := by subst h; rw [List.getElem?_append_right (by omega), Nat.add_sub_cancel_left]
theorem bx_getL (h : n < L.length) : (L ++ X)[n]? = L[n]? := List.getElem?_append_left h
theorem bx_set0 (h : L.length = n) : (L ++ X).set n y = L ++ X.set 0 y := by subst h; rw [List.set_append_right _ _ (Nat.le_refl _), Nat.sub_self]
theorem bx_set (h : L.length = n) : (L ++ X).set (n + i) y = L ++ X.set i y := by subst h; rw [List.set_append_right _ _ (by omega), Nat.add_sub_cancel_left]
theorem bx_setL (h : n < L.length) : (L ++ X).set n y = L.set n y ++ X := List.set_append_left _ _ h
theorem bx_self (h : n < L.length) : (L.set n y)[n]? = some y := List.getElem?_set_self h
theorem bx_same (h : L[n]? = some y) : L.set n y = L := by
  obtain ⟨h1, rfl⟩ := List.getElem?_eq_some_iff.1 h
  exact List.set_getElem_self h1
end
theorem bx_pack {B : List Box} {β : Nat} {b : Box} (hB : B[β]? = some b) : (∀ X, (B ++ X)[β]? = some b) ∧ (∀ X y, (B ++ X).set β y = B.set β y ++ X) ∧ (∀ y, (B.set β y)[β]? = some y) ∧ (∀ y X, (B.set β y ++ X)[β]? = some y) ∧ (∀ y z X, (B.set β y ++ X).set β z = B.set β z ++ X) ∧
    (∀ y X, (B.set β y ++ X)[B.length]? = X[0]?) ∧ (∀ y X i, (B.set β y ++ X)[B.length + i]? = X[i]?) ∧ (∀ y z X, (B.set β y ++ X).set B.length z = B.set β y ++ X.set 0 z) ∧ (∀ y z X i, (B.set β y ++ X).set (B.length + i) z = B.set β y ++ X.set i z) ∧
    (∀ X, (B ++ X)[B.length]? = X[0]?) ∧ (∀ X i, (B ++ X)[B.length + i]? = X[i]?) ∧ (∀ z X, (B ++ X).set B.length z = B ++ X.set 0 z) ∧ (∀ z X i, (B ++ X).set (B.length + i) z = B ++ X.set i z) := by
  have h := (List.getElem?_eq_some_iff.1 hB).1
  refine ⟨fun X => by rw [bx_getL h, hB], fun X y => bx_setL h, fun y => bx_self h, fun y X => by rw [bx_getL (by simpa using h), bx_self h], fun y z X => by rw [bx_setL (by simpa using h), List.set_set],
    fun y X => bx_get0 (by simp), fun y X i => bx_get (by simp), fun y z X => bx_set0 (by simp), fun y z X i => bx_set (by simp), fun X => bx_get0 rfl, fun X i => bx_get rfl, fun z X => bx_set0 rfl, fun z X i => bx_set rfl⟩
def Hid (p : Prop) : Prop := p
def Cells {α : Type} (f : α → List CV) (z : Nat) (cs : List CV) (L : List α) : Prop := ∀ (i : Nat) (h : i < L.length), i * z + z ≤ cs.length ∧ (cs.drop (i * z)).take z = f L[i]
theorem cells_pre {α : Type} {f : α → List CV} {z : Nat} {A L : List α} (hf : ∀ a ∈ A, (f a).length = z) (h : A.take L.length = L) : Cells f z (A.flatMap f) L := by
  intro i hi
  have hl : L.length ≤ A.length := by have := congrArg List.length h; rw [List.length_take] at this; omega
  have e : A[i]'(by omega) = L[i] := by
    have : (A.take L.length)[i]'(by rw [h]; exact hi) = L[i] := by congr 1
    rw [← this, List.getElem_take]
  refine ⟨?_, by rw [fl_get hf i (by omega), e]⟩
  rw [fl_len hf, ← Nat.succ_mul]
  exact Nat.mul_le_mul_right _ (by omega)
theorem cells_all {α : Type} {f : α → List CV} {z : Nat} {L : List α} (hf : ∀ a ∈ L, (f a).length = z) : Cells f z (L.flatMap f) L := cells_pre hf (List.take_length ..)
structure Row {α : Type} (f : α → List CV) (z : Nat) (B : List Box) (s : CV) (L : List α) : Prop where
  small : L.length < 1099511627776
  at_ : ∃ cs, Cells f z cs L ∧ ((∃ fl, s = .lst L.length cs fl) ∨ (∃ b cap, s = .cview b 0 L.length cap z ∧ B[b]? = some ⟨cs, false⟩) ∨ ∃ b fl m, s = .view b 0 L.length z fl ∧ B[b]? = some ⟨cs, m⟩)
structure Kept (b : Nat) (B W : List Box) : Prop where
  len : B.length ≤ W.length
  same : ∀ β, β ≠ b → β < B.length → W[β]? = B[β]?
theorem Kept.refl (b : Nat) (B : List Box) : Kept b B B := ⟨Nat.le_refl _, fun _ _ _ => rfl⟩
theorem Kept.app {b : Nat} {B W : List Box} (h : Kept b B W) (X : List Box) : Kept b B (W ++ X) := ⟨by have := h.len; rw [List.length_append]; omega, fun β h1 h2 => by rw [List.getElem?_append_left (by have := h.len; omega), h.same β h1 h2]⟩
theorem Kept.set {b : Nat} {B W : List Box} (h : Kept b B W) (x : Box) : Kept b B (W.set b x) := ⟨by have := h.len; rw [List.length_set]; exact this, fun β h1 h2 => by rw [List.getElem?_set_ne (Ne.symm h1), h.same β h1 h2]⟩
def idxF {α : Type} (p : α → Bool) (L : List α) : Int := if L.findIdx p < L.length then (L.findIdx p : Int) else -1
theorem fI_at {α : Type} {p : α → Bool} {L : List α} {i : Nat} (h : i < L.length) (hp : p L[i] = true) (hi : i ≤ L.findIdx p) : L.findIdx p = i := by
  rcases Nat.lt_or_ge i (L.findIdx p) with h1 | h1
  · have := List.not_of_lt_findIdx h1; rw [hp] at this; cases this
  · omega
theorem fI_next {α : Type} {p : α → Bool} {L : List α} {i : Nat} (h : i < L.length) (hp : ¬ p L[i] = true) (hi : i ≤ L.findIdx p) : i + 1 ≤ L.findIdx p := by
  rcases Nat.lt_or_ge i (L.findIdx p) with h1 | h1
  · omega
  · have e : L.findIdx p = i := by omega
    have := List.findIdx_getElem (xs := L) (p := p) (w := by omega)
    simp only [e] at this
    exact absurd this hp
theorem idxF_any {α : Type} (p : α → Bool) (L : List α) : decide (0 ≤ idxF p L) = L.any p := by
  unfold idxF
  by_cases h : L.findIdx p < L.length
  · have := List.findIdx_getElem (xs := L) (p := p) (w := h)
    rw [if_pos h, List.any_eq_true.2 ⟨_, List.getElem_mem h, this⟩]; simp
  · rw [if_neg h, List.any_eq_false.2]
    · rfl
    · intro x hx hp
      exact h (List.findIdx_lt_length_of_exists ⟨x, hx, hp⟩)
theorem omap_fl {α : Type} {f : α → List CV} {g : CV → Option CV} (hf : ∀ a, omap g (f a) = some (f a)) : ∀ l : List α, omap g (l.flatMap f) = some (l.flatMap f)
  | [] => rfl
  | a :: l => by rw [List.flatMap_cons, omap_app, hf a, omap_fl hf l]; rfl
def GrowR {α : Type} (f : α → List CV) (z o : Nat) (c : CV) (B : List Box) (L : List α) : Prop := (L = [] ∧ c = .nilS) ∨ ∃ b m, L ≠ [] ∧ c = .view (b + o) 0 L.length z false ∧ B[b]? = some ⟨L.flatMap f, m⟩
theorem GrowR.app {α : Type} {f : α → List CV} {z o : Nat} {c : CV} {B : List Box} {L : List α} (h : GrowR f z o c B L) (X : List Box) : GrowR f z o c (B ++ X) L := by
  obtain ⟨h1, h2⟩ | ⟨b, m, h2, h3, h4⟩ := h
  · exact .inl ⟨h1, h2⟩
  · exact .inr ⟨b, m, h2, h3, (bx_pack h4).1 X⟩
end Go.Proofs.YtdceppjoipoohaaDoor
end
section
namespace Go.Proofs.YtdceppjoipoohaaDoor
open Go Go.Sy
set_option linter.all false
set_option maxRecDepth 100000
set_option maxHeartbeats 4000000
theorem kE_K00 {α : Type} {x y : α} (h : Is x y := by first | ((try simp (disch := first | omega | (simp only [yZ, yB] <;> omega) | fail) [go_sem, yY, *, cb, if_pos, if_neg, -List.map_take, -List.map_drop, -List.map_append, -List.map_reverse]); exact rfl) | fail) : Is x y := h
theorem kD_K00 {p : Prop} (h : p := by (first | omega | assumption | exact rfl | ((simp (disch := first | omega | (simp only [yZ, yB] <;> omega) | fail) [go_sem, yY, *, cb, -List.map_take, -List.map_drop, -List.map_append, -List.map_reverse]) <;> (first | done | omega | exact rfl)) | fail)) : p := h
def cb (l : List UInt8) (a : Nat) : Box := ⟨[.lst l.length (l.map byteC) false, .int .i64 a], false⟩
def nxV (l : List UInt8) (a n : Nat) : Nat := if a < l.length ∧ 0 < n then (l.getD a 0).toNat % n else 0
def nxA (l : List UInt8) (a n : Nat) : Nat := if a < l.length ∧ 0 < n then a + 1 else a
theorem nxA_le {l : List UInt8} {a n : Nat} (h : a ≤ l.length) : nxA l a n ≤ l.length := by unfold nxA; split <;> omega
theorem nxV_lt {l : List UInt8} {a n : Nat} (h : 0 < n) : nxV l a n < n := by unfold nxV; split; exact Nat.mod_lt _ h; exact h
theorem new_at {B : List Box} {args : List CV} {l : List UInt8} {n : Nat} (ha : Is args [.lst l.length (l.map byteC) false, .int .i64 n]) (hl : l.length < 9223372036854775808) : ACall Tryd.prog 6 args B fun c B' => c = .ptr B.length 0 ∧ B' = B ++ [cb (l.take n) 0] := by
  have ha : args = _ := ha
  subst ha
  have e : (min (l.length : Int) n).toNat = min n l.length := by omega
  have e2 : l.take (min n l.length) = l.take n := by
    rcases Nat.le_total n l.length with h | h
    · rw [Nat.min_eq_left h]
    · rw [Nat.min_eq_right h, List.take_of_length_le (by omega), List.take_of_length_le (by omega)]
  refine acall_intro mixed Tryd.func6 rfl ca6 (by kernel_rfl) (by rw [Tryd.ntmps6]; simp) ?_
  repeat' (first | (with_reducible first | apply jA | apply jB | apply jC | apply jD | apply jE | apply jF | apply jG | apply jH | apply jI | apply jJ | apply jK | apply jL | apply jM | apply jN | apply jO) | ((with_reducible first | apply jP | apply jQ); rfl) | ((first | ((with_reducible first | apply jR | apply jS | apply jT); rfl; rfl) | (with_reducible first | apply jU | apply jV | apply jW) | ((with_reducible first | apply jX | apply jY | apply jZ); rfl)); all_goals (first | ((with_reducible show Is _ _); exact kE) | ((with_reducible refine fun (hc : (_ : Bool) = _) => ?_); (try simp only [xZ, xY, xP, reduceCtorEq] at hc); (try (have hx : True := hc; clear hx hc)); (try exact kX)) | ((fail_if_success (with_reducible first | show Is _ _ | show ACall _ _ _ _ _)); (try ((with_reducible show _ ∨ _); exact kT))))))
  refine ⟨rfl, ?_⟩
  rw [cb, List.length_take]
  rfl
theorem left_at {B : List Box} {β : Nat} {args : List CV} {l : List UInt8} {a : Nat} (ha : Is args [.ptr β 0]) (hB : B[β]? = some (cb l a)) : ACall Tryd.prog 67 args B fun c B' => c = .bool (decide (a < l.length)) ∧ B' = B := by
  have ha : args = _ := ha
  subst ha
  rw [cb] at hB
  refine acall_intro mixed Tryd.func67 rfl ca67 (by kernel_rfl) (by rw [Tryd.ntmps67]; simp) ?_
  repeat' (first | (with_reducible first | apply jA | apply jB | apply jC | apply jD | apply jE | apply jF | apply jG | apply jH | apply jI | apply jJ | apply jK | apply jL | apply jM | apply jN | apply jO) | ((with_reducible first | apply jP | apply jQ); rfl) | ((first | ((with_reducible first | apply jR | apply jS | apply jT); rfl; rfl) | (with_reducible first | apply jU | apply jV | apply jW) | ((with_reducible first | apply jX | apply jY | apply jZ); rfl)); all_goals (first | ((with_reducible show Is _ _); exact kE) | ((with_reducible refine fun (hc : (_ : Bool) = _) => ?_); (try simp only [xZ, xY, xP, reduceCtorEq] at hc); (try (have hx : True := hc; clear hx hc)); (try exact kX)) | ((fail_if_success (with_reducible first | show Is _ _ | show ACall _ _ _ _ _)); (try ((with_reducible show _ ∨ _); exact kT))))))
  exact ⟨rfl, rfl⟩
theorem next_at {B : List Box} {β : Nat} {args : List CV} {l : List UInt8} {a n : Nat} {m : Int} (ha : Is args [.ptr β 0, .int .i64 m]) (hm : m = n) (hB : B[β]? = some (cb l a)) (hl : a ≤ l.length ∧ l.length < 4611686018427387904) : ACall Tryd.prog 29 args B fun c B' => c = .int .i64 (nxV l a n) ∧ B' = B.set β (cb l (nxA l a n)) := by
  have ha : args = _ := ha
  subst ha hm
  have hs : ∀ y, (B.set β y)[β]? = some y := fun y => bx_self (List.getElem?_eq_some_iff.1 hB).1
  have hl1 : ∀ {B : List Box} {args : List CV}, Is args [.ptr β 0] → B[β]? = some (cb l a) → ACall Tryd.prog 67 args B fun c B' => c = .bool (decide (a < l.length)) ∧ B' = B := fun h h2 => left_at h h2
  refine acall_intro mixed Tryd.func29 rfl ca29 (by kernel_rfl) (by rw [Tryd.ntmps29]; simp) ?_
  by_cases h : a < l.length ∧ 0 < n
  · rw [nxV, nxA, if_pos h, if_pos h]
    obtain ⟨h1, h2⟩ := h
    rw [cb] at hB
    repeat' (first | (with_reducible first | apply jA | apply jB | apply jC | apply jD | apply jE | apply jF | apply jG | apply jH | apply jI | apply jJ | apply jK | apply jL | apply jM | apply jN | apply jO) | ((with_reducible first | apply jP | apply jQ); rfl) | ((first | ((with_reducible first | apply jR | apply jS | apply jT); rfl; rfl) | (with_reducible first | apply jU | apply jV | apply jW) | ((with_reducible first | apply jX | apply jY | apply jZ); rfl) | ((with_reducible first | apply kA | apply kB | apply kC); rfl)); all_goals (first | ((with_reducible show Is _ _); exact kE_K00) | ((with_reducible refine fun (hc : (_ : Bool) = _) => ?_); (try simp only [xZ, xY, xP, reduceCtorEq] at hc); (try (have hx : True := hc; clear hx hc)); (try exact kX)) | ((with_reducible show ACall _ _ _ _ _); (first | ((with_reducible apply hl1) <;> exact kD_K00))) | ((fail_if_success (with_reducible first | show Is _ _ | show ACall _ _ _ _ _)); (try ((with_reducible show _ ∨ _); exact kT))))))
    rw [List.getD_eq_getElem?_getD, List.getElem?_eq_getElem h1, Option.getD_some, cb]
    exact ⟨rfl, rfl⟩
  · rw [nxV, nxA, if_neg h, if_neg h, bx_same hB]
    by_cases h1 : a < l.length
    · have : n = 0 := by omega
      subst this
      repeat' (first | (with_reducible first | apply jA | apply jB | apply jC | apply jD | apply jE | apply jF | apply jG | apply jH | apply jI | apply jJ | apply jK | apply jL | apply jM | apply jN | apply jO) | ((with_reducible first | apply jP | apply jQ); rfl) | ((first | ((with_reducible first | apply jR | apply jS | apply jT); rfl; rfl) | (with_reducible first | apply jU | apply jV | apply jW) | ((with_reducible first | apply jX | apply jY | apply jZ); rfl) | ((with_reducible first | apply kA | apply kB | apply kC); rfl)); all_goals (first | ((with_reducible show Is _ _); exact kE) | ((with_reducible refine fun (hc : (_ : Bool) = _) => ?_); (try simp only [xZ, xY, xP, reduceCtorEq] at hc); (try (have hx : True := hc; clear hx hc)); (try exact kX)) | ((with_reducible show ACall _ _ _ _ _); (first | ((with_reducible apply hl1) <;> exact kD))) | ((fail_if_success (with_reducible first | show Is _ _ | show ACall _ _ _ _ _)); (try ((with_reducible show _ ∨ _); exact kT))))))
      all_goals exact ⟨rfl, rfl⟩
    · repeat' (first | (with_reducible first | apply jA | apply jB | apply jC | apply jD | apply jE | apply jF | apply jG | apply jH | apply jI | apply jJ | apply jK | apply jL | apply jM | apply jN | apply jO) | ((with_reducible first | apply jP | apply jQ); rfl) | ((first | ((with_reducible first | apply jR | apply jS | apply jT); rfl; rfl) | (with_reducible first | apply jU | apply jV | apply jW) | ((with_reducible first | apply jX | apply jY | apply jZ); rfl) | ((with_reducible first | apply kA | apply kB | apply kC); rfl)); all_goals (first | ((with_reducible show Is _ _); exact kE) | ((with_reducible refine fun (hc : (_ : Bool) = _) => ?_); (try simp only [xZ, xY, xP, reduceCtorEq] at hc); (try (have hx : True := hc; clear hx hc)); (try exact kX)) | ((with_reducible show ACall _ _ _ _ _); (first | ((with_reducible apply hl1) <;> exact kD))) | ((fail_if_success (with_reducible first | show Is _ _ | show ACall _ _ _ _ _)); (try ((with_reducible show _ ∨ _); exact kT))))))
      all_goals exact ⟨rfl, rfl⟩
end Go.Proofs.YtdceppjoipoohaaDoor
end
