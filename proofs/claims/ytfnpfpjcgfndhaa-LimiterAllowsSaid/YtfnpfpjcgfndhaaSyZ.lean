/- Closed facts of the seat program for the canonical machine: printed by facts.py. -/
import Derived.Test.YtfnpfpjcgfndhaaSyX
import Derived.Test.YtfnpfpjcgfndhaaRows
import Derived.KernelRfl
namespace Go.Proofs.Ytfnpfpjcgfndhaa
open Go Go.Sy

theorem mixed : Try.prog.follows .mixedOrders = true := by kernel_rfl
@[go_sem] theorem sz2 : szOf Try.prog 2 = some 1 := by kernel_rfl
@[go_sem] theorem ag2 : aggT Try.prog 2 = false := by kernel_rfl
@[go_sem] theorem by2 : Try.prog.bytesOf 2 = 8 := by kernel_rfl
@[go_sem] theorem un2 : (Try.prog.underlying 2).isNone = false := by kernel_rfl
@[go_sem] theorem zo2 : zerosOf Try.prog 2 = some [.int .i64 0] := by kernel_rfl
attribute [go_sem] Try.underlying2
@[go_sem] theorem eql2 (d : Nat) (k : IntKind) (a b : Int) : eqV Try.prog (d + 1) 2 (.int k a) (.int k b) = some (a == b) := eqV_int Try.underlying2 d k a b
@[go_sem] theorem sz3 : szOf Try.prog 3 = some 1 := by kernel_rfl
@[go_sem] theorem ag3 : aggT Try.prog 3 = false := by kernel_rfl
@[go_sem] theorem by3 : Try.prog.bytesOf 3 = 8 := by kernel_rfl
@[go_sem] theorem un3 : (Try.prog.underlying 3).isNone = false := by kernel_rfl
@[go_sem] theorem zo3 : zerosOf Try.prog 3 = some [.int .i64 0] := by kernel_rfl
attribute [go_sem] Try.underlying3
@[go_sem] theorem eql3 (d : Nat) (k : IntKind) (a b : Int) : eqV Try.prog (d + 1) 3 (.int k a) (.int k b) = some (a == b) := eqV_int Try.underlying3 d k a b
@[go_sem] theorem sz4 : szOf Try.prog 4 = some 1 := by kernel_rfl
@[go_sem] theorem ag4 : aggT Try.prog 4 = false := by kernel_rfl
@[go_sem] theorem by4 : Try.prog.bytesOf 4 = 1 := by kernel_rfl
@[go_sem] theorem un4 : (Try.prog.underlying 4).isNone = false := by kernel_rfl
@[go_sem] theorem zo4 : zerosOf Try.prog 4 = some [.bool false] := by kernel_rfl
attribute [go_sem] Try.underlying4
@[go_sem] theorem eql4 (d : Nat) (a b : Bool) : eqV Try.prog (d + 1) 4 (.bool a) (.bool b) = some (a == b) := eqV_bool Try.underlying4 d a b
@[go_sem] theorem sz5 : szOf Try.prog 5 = some 1 := by kernel_rfl
@[go_sem] theorem ag5 : aggT Try.prog 5 = false := by kernel_rfl
@[go_sem] theorem by5 : Try.prog.bytesOf 5 = 1 := by kernel_rfl
@[go_sem] theorem un5 : (Try.prog.underlying 5).isNone = false := by kernel_rfl
@[go_sem] theorem zo5 : zerosOf Try.prog 5 = some [.int .u8 0] := by kernel_rfl
attribute [go_sem] Try.underlying5
@[go_sem] theorem eql5 (d : Nat) (k : IntKind) (a b : Int) : eqV Try.prog (d + 1) 5 (.int k a) (.int k b) = some (a == b) := eqV_int Try.underlying5 d k a b
@[go_sem] theorem sz6 : szOf Try.prog 6 = some 1 := by kernel_rfl
@[go_sem] theorem ag6 : aggT Try.prog 6 = false := by kernel_rfl
@[go_sem] theorem by6 : Try.prog.bytesOf 6 = 1 := by kernel_rfl
@[go_sem] theorem un6 : (Try.prog.underlying 6).isNone = false := by kernel_rfl
@[go_sem] theorem zo6 : zerosOf Try.prog 6 = some [.int .u8 0] := by kernel_rfl
attribute [go_sem] Try.underlying6
@[go_sem] theorem eql6 (d : Nat) (k : IntKind) (a b : Int) : eqV Try.prog (d + 1) 6 (.int k a) (.int k b) = some (a == b) := eqV_int Try.underlying6 d k a b
@[go_sem] theorem sz7 : szOf Try.prog 7 = some 4 := by kernel_rfl
@[go_sem] theorem ag7 : aggT Try.prog 7 = true := by kernel_rfl
@[go_sem] theorem by7 : Try.prog.bytesOf 7 = 24 := by kernel_rfl
@[go_sem] theorem un7 : (Try.prog.underlying 7).isNone = false := by kernel_rfl
@[go_sem] theorem zo7 : zerosOf Try.prog 7 = some [.int .i64 0, .int .i64 0, .bool false, .int .u8 0] := by kernel_rfl
attribute [go_sem] Try.underlying7
@[go_sem] theorem gd7 : Try.prog.eqGuardType Try.prog.depth 7 = false := by kernel_rfl
@[go_sem] theorem st7 : Try.prog.stoodInHeld 7 = false := by kernel_rfl
@[go_sem] theorem eqs7 (d : Nat) (xs ys : List CV) : eqV Try.prog (d + 1) 7 (.agg xs) (.agg ys) = eqF Try.prog d xs ys (match Try.prog.underlying 7 with | some (.struct fs) => fs.toList | _ => []) := by rw [Try.underlying7]; exact eqV_struct Try.underlying7 st7 d xs ys
@[go_sem] theorem sz8 : szOf Try.prog 8 = some 4 := by kernel_rfl
@[go_sem] theorem ag8 : aggT Try.prog 8 = true := by kernel_rfl
@[go_sem] theorem by8 : Try.prog.bytesOf 8 = 24 := by kernel_rfl
@[go_sem] theorem un8 : (Try.prog.underlying 8).isNone = false := by kernel_rfl
@[go_sem] theorem zo8 : zerosOf Try.prog 8 = some [.int .i64 0, .int .i64 0, .bool false, .int .u8 0] := by kernel_rfl
attribute [go_sem] Try.underlying8
@[go_sem] theorem gd8 : Try.prog.eqGuardType Try.prog.depth 8 = false := by kernel_rfl
@[go_sem] theorem st8 : Try.prog.stoodInHeld 8 = false := by kernel_rfl
@[go_sem] theorem eqs8 (d : Nat) (xs ys : List CV) : eqV Try.prog (d + 1) 8 (.agg xs) (.agg ys) = eqF Try.prog d xs ys (match Try.prog.underlying 8 with | some (.struct fs) => fs.toList | _ => []) := by rw [Try.underlying8]; exact eqV_struct Try.underlying8 st8 d xs ys
@[go_sem] theorem sz9 : szOf Try.prog 9 = some 1 := by kernel_rfl
@[go_sem] theorem ag9 : aggT Try.prog 9 = false := by kernel_rfl
@[go_sem] theorem by9 : Try.prog.bytesOf 9 = 16 := by kernel_rfl
@[go_sem] theorem un9 : (Try.prog.underlying 9).isNone = false := by kernel_rfl
@[go_sem] theorem zo9 : zerosOf Try.prog 9 = some [.str []] := by kernel_rfl
attribute [go_sem] Try.underlying9
@[go_sem] theorem eql9 (d : Nat) (a b : List UInt8) : eqV Try.prog (d + 1) 9 (.str a) (.str b) = some (a == b) := eqV_str Try.underlying9 d a b
@[go_sem] theorem sz10 : szOf Try.prog 10 = some 1 := by kernel_rfl
@[go_sem] theorem ag10 : aggT Try.prog 10 = false := by kernel_rfl
@[go_sem] theorem by10 : Try.prog.bytesOf 10 = 16 := by kernel_rfl
@[go_sem] theorem un10 : (Try.prog.underlying 10).isNone = false := by kernel_rfl
@[go_sem] theorem zo10 : zerosOf Try.prog 10 = some [.str []] := by kernel_rfl
attribute [go_sem] Try.underlying10
@[go_sem] theorem eql10 (d : Nat) (a b : List UInt8) : eqV Try.prog (d + 1) 10 (.str a) (.str b) = some (a == b) := eqV_str Try.underlying10 d a b
@[go_sem] theorem sz11 : szOf Try.prog 11 = some 1 := by kernel_rfl
@[go_sem] theorem ag11 : aggT Try.prog 11 = false := by kernel_rfl
@[go_sem] theorem by11 : Try.prog.bytesOf 11 = 16 := by kernel_rfl
@[go_sem] theorem un11 : (Try.prog.underlying 11).isNone = false := by kernel_rfl
@[go_sem] theorem zo11 : zerosOf Try.prog 11 = some [.str []] := by kernel_rfl
attribute [go_sem] Try.underlying11
@[go_sem] theorem eql11 (d : Nat) (a b : List UInt8) : eqV Try.prog (d + 1) 11 (.str a) (.str b) = some (a == b) := eqV_str Try.underlying11 d a b
@[go_sem] theorem sz12 : szOf Try.prog 12 = some 1 := by kernel_rfl
@[go_sem] theorem ag12 : aggT Try.prog 12 = false := by kernel_rfl
@[go_sem] theorem by12 : Try.prog.bytesOf 12 = 8 := by kernel_rfl
@[go_sem] theorem un12 : (Try.prog.underlying 12).isNone = false := by kernel_rfl
@[go_sem] theorem zo12 : zerosOf Try.prog 12 = some [.int .u64 0] := by kernel_rfl
attribute [go_sem] Try.underlying12
@[go_sem] theorem eql12 (d : Nat) (k : IntKind) (a b : Int) : eqV Try.prog (d + 1) 12 (.int k a) (.int k b) = some (a == b) := eqV_int Try.underlying12 d k a b
@[go_sem] theorem sz13 : szOf Try.prog 13 = some 2 := by kernel_rfl
@[go_sem] theorem ag13 : aggT Try.prog 13 = true := by kernel_rfl
@[go_sem] theorem by13 : Try.prog.bytesOf 13 = 24 := by kernel_rfl
@[go_sem] theorem un13 : (Try.prog.underlying 13).isNone = false := by kernel_rfl
@[go_sem] theorem zo13 : zerosOf Try.prog 13 = some [.str [], .int .u64 0] := by kernel_rfl
attribute [go_sem] Try.underlying13
@[go_sem] theorem gd13 : Try.prog.eqGuardType Try.prog.depth 13 = false := by kernel_rfl
@[go_sem] theorem sz14 : szOf Try.prog 14 = some 2 := by kernel_rfl
@[go_sem] theorem ag14 : aggT Try.prog 14 = true := by kernel_rfl
@[go_sem] theorem by14 : Try.prog.bytesOf 14 = 24 := by kernel_rfl
@[go_sem] theorem un14 : (Try.prog.underlying 14).isNone = false := by kernel_rfl
@[go_sem] theorem zo14 : zerosOf Try.prog 14 = some [.str [], .int .u64 0] := by kernel_rfl
attribute [go_sem] Try.underlying14
@[go_sem] theorem gd14 : Try.prog.eqGuardType Try.prog.depth 14 = false := by kernel_rfl
@[go_sem] theorem sz15 : szOf Try.prog 15 = some 1 := by kernel_rfl
@[go_sem] theorem ag15 : aggT Try.prog 15 = false := by kernel_rfl
@[go_sem] theorem by15 : Try.prog.bytesOf 15 = 8 := by kernel_rfl
@[go_sem] theorem un15 : (Try.prog.underlying 15).isNone = false := by kernel_rfl
@[go_sem] theorem zo15 : zerosOf Try.prog 15 = some [.nilP] := by kernel_rfl
attribute [go_sem] Try.underlying15
@[go_sem] theorem sz16 : szOf Try.prog 16 = some 1 := by kernel_rfl
@[go_sem] theorem ag16 : aggT Try.prog 16 = false := by kernel_rfl
@[go_sem] theorem by16 : Try.prog.bytesOf 16 = 8 := by kernel_rfl
@[go_sem] theorem un16 : (Try.prog.underlying 16).isNone = false := by kernel_rfl
@[go_sem] theorem zo16 : zerosOf Try.prog 16 = some [.nilP] := by kernel_rfl
attribute [go_sem] Try.underlying16
@[go_sem] theorem sz17 : szOf Try.prog 17 = some 1 := by kernel_rfl
@[go_sem] theorem ag17 : aggT Try.prog 17 = false := by kernel_rfl
@[go_sem] theorem by17 : Try.prog.bytesOf 17 = 8 := by kernel_rfl
@[go_sem] theorem un17 : (Try.prog.underlying 17).isNone = false := by kernel_rfl
@[go_sem] theorem zo17 : zerosOf Try.prog 17 = some [.nilP] := by kernel_rfl
attribute [go_sem] Try.underlying17
@[go_sem] theorem sz18 : szOf Try.prog 18 = some 1 := by kernel_rfl
@[go_sem] theorem ag18 : aggT Try.prog 18 = true := by kernel_rfl
@[go_sem] theorem by18 : Try.prog.bytesOf 18 = 8 := by kernel_rfl
@[go_sem] theorem un18 : (Try.prog.underlying 18).isNone = false := by kernel_rfl
@[go_sem] theorem zo18 : zerosOf Try.prog 18 = some [.nilP] := by kernel_rfl
attribute [go_sem] Try.underlying18
@[go_sem] theorem gd18 : Try.prog.eqGuardType Try.prog.depth 18 = false := by kernel_rfl
@[go_sem] theorem sz19 : szOf Try.prog 19 = some 1 := by kernel_rfl
@[go_sem] theorem ag19 : aggT Try.prog 19 = true := by kernel_rfl
@[go_sem] theorem by19 : Try.prog.bytesOf 19 = 8 := by kernel_rfl
@[go_sem] theorem un19 : (Try.prog.underlying 19).isNone = false := by kernel_rfl
@[go_sem] theorem zo19 : zerosOf Try.prog 19 = some [.nilP] := by kernel_rfl
attribute [go_sem] Try.underlying19
@[go_sem] theorem gd19 : Try.prog.eqGuardType Try.prog.depth 19 = false := by kernel_rfl
@[go_sem] theorem sz21 : szOf Try.prog 21 = some 1 := by kernel_rfl
@[go_sem] theorem ag21 : aggT Try.prog 21 = false := by kernel_rfl
@[go_sem] theorem by21 : Try.prog.bytesOf 21 = 4 := by kernel_rfl
@[go_sem] theorem un21 : (Try.prog.underlying 21).isNone = false := by kernel_rfl
@[go_sem] theorem zo21 : zerosOf Try.prog 21 = some [.int .i32 0] := by kernel_rfl
attribute [go_sem] Try.underlying21
@[go_sem] theorem eql21 (d : Nat) (k : IntKind) (a b : Int) : eqV Try.prog (d + 1) 21 (.int k a) (.int k b) = some (a == b) := eqV_int Try.underlying21 d k a b
@[go_sem] theorem sz22 : szOf Try.prog 22 = some 1 := by kernel_rfl
@[go_sem] theorem ag22 : aggT Try.prog 22 = false := by kernel_rfl
@[go_sem] theorem by22 : Try.prog.bytesOf 22 = 24 := by kernel_rfl
@[go_sem] theorem un22 : (Try.prog.underlying 22).isNone = false := by kernel_rfl
@[go_sem] theorem zo22 : zerosOf Try.prog 22 = some [.nilS] := by kernel_rfl
attribute [go_sem] Try.underlying22
@[go_sem] theorem el22 : elemT Try.prog 22 = some 5 := by kernel_rfl
@[go_sem] theorem ap22 (B : List Box) (s x : CV) : appendC Try.prog 22 B s x = appendK Try.prog 5 1 B s x := appendC_eq (by kernel_rfl) (by kernel_rfl) (by kernel_rfl) B s x
@[go_sem] theorem sz23 : szOf Try.prog 23 = some 1 := by kernel_rfl
@[go_sem] theorem ag23 : aggT Try.prog 23 = false := by kernel_rfl
@[go_sem] theorem by23 : Try.prog.bytesOf 23 = 24 := by kernel_rfl
@[go_sem] theorem un23 : (Try.prog.underlying 23).isNone = false := by kernel_rfl
@[go_sem] theorem zo23 : zerosOf Try.prog 23 = some [.nilS] := by kernel_rfl
attribute [go_sem] Try.underlying23
@[go_sem] theorem el23 : elemT Try.prog 23 = some 36 := by kernel_rfl
@[go_sem] theorem ap23 (B : List Box) (s x : CV) : appendC Try.prog 23 B s x = appendK Try.prog 36 19 B s x := appendC_eq (by kernel_rfl) (by kernel_rfl) (by kernel_rfl) B s x
@[go_sem] theorem sz24 : szOf Try.prog 24 = some 16 := by kernel_rfl
@[go_sem] theorem ag24 : aggT Try.prog 24 = true := by kernel_rfl
@[go_sem] theorem by24 : Try.prog.bytesOf 24 = 16 := by kernel_rfl
@[go_sem] theorem un24 : (Try.prog.underlying 24).isNone = false := by kernel_rfl
@[go_sem] theorem zo24 : zerosOf Try.prog 24 = some [.int .u8 0, .int .u8 0, .int .u8 0, .int .u8 0, .int .u8 0, .int .u8 0, .int .u8 0, .int .u8 0, .int .u8 0, .int .u8 0, .int .u8 0, .int .u8 0, .int .u8 0, .int .u8 0, .int .u8 0, .int .u8 0] := by kernel_rfl
attribute [go_sem] Try.underlying24
@[go_sem] theorem gd24 : Try.prog.eqGuardType Try.prog.depth 24 = false := by kernel_rfl
@[go_sem] theorem eqb24 (l1 l2 : List UInt8) (h1 : l1.length = 16) (h2 : l2.length = 16) (d : Nat) : eqV Try.prog (d + 2) 24 (.agg (l1.map byteC)) (.agg (l2.map byteC)) = some (l1 == l2) := eqV_bytes Try.underlying24 Try.underlying5 (by kernel_rfl) (by kernel_rfl) l1 l2 h1 h2
@[go_sem] theorem eqz24 (l1 : List UInt8) (h1 : l1.length = 16) (d : Nat) : eqV Try.prog (d + 2) 24 (.agg (l1.map byteC)) (.agg [.int .u8 0, .int .u8 0, .int .u8 0, .int .u8 0, .int .u8 0, .int .u8 0, .int .u8 0, .int .u8 0, .int .u8 0, .int .u8 0, .int .u8 0, .int .u8 0, .int .u8 0, .int .u8 0, .int .u8 0, .int .u8 0]) = some (l1 == List.replicate 16 0) := eqb24 l1 (List.replicate 16 0) h1 rfl d
@[go_sem] theorem sz25 : szOf Try.prog 25 = some 17 := by kernel_rfl
@[go_sem] theorem ag25 : aggT Try.prog 25 = true := by kernel_rfl
@[go_sem] theorem by25 : Try.prog.bytesOf 25 = 17 := by kernel_rfl
@[go_sem] theorem un25 : (Try.prog.underlying 25).isNone = false := by kernel_rfl
@[go_sem] theorem zo25 : zerosOf Try.prog 25 = some [.bool false, .int .u8 0, .int .u8 0, .int .u8 0, .int .u8 0, .int .u8 0, .int .u8 0, .int .u8 0, .int .u8 0, .int .u8 0, .int .u8 0, .int .u8 0, .int .u8 0, .int .u8 0, .int .u8 0, .int .u8 0, .int .u8 0] := by kernel_rfl
attribute [go_sem] Try.underlying25
@[go_sem] theorem gd25 : Try.prog.eqGuardType Try.prog.depth 25 = false := by kernel_rfl
@[go_sem] theorem st25 : Try.prog.stoodInHeld 25 = false := by kernel_rfl
@[go_sem] theorem eqs25 (d : Nat) (xs ys : List CV) : eqV Try.prog (d + 1) 25 (.agg xs) (.agg ys) = eqF Try.prog d xs ys (match Try.prog.underlying 25 with | some (.struct fs) => fs.toList | _ => []) := by rw [Try.underlying25]; exact eqV_struct Try.underlying25 st25 d xs ys
@[go_sem] theorem sz26 : szOf Try.prog 26 = some 17 := by kernel_rfl
@[go_sem] theorem ag26 : aggT Try.prog 26 = true := by kernel_rfl
@[go_sem] theorem by26 : Try.prog.bytesOf 26 = 17 := by kernel_rfl
@[go_sem] theorem un26 : (Try.prog.underlying 26).isNone = false := by kernel_rfl
@[go_sem] theorem zo26 : zerosOf Try.prog 26 = some [.bool false, .int .u8 0, .int .u8 0, .int .u8 0, .int .u8 0, .int .u8 0, .int .u8 0, .int .u8 0, .int .u8 0, .int .u8 0, .int .u8 0, .int .u8 0, .int .u8 0, .int .u8 0, .int .u8 0, .int .u8 0, .int .u8 0] := by kernel_rfl
attribute [go_sem] Try.underlying26
@[go_sem] theorem gd26 : Try.prog.eqGuardType Try.prog.depth 26 = false := by kernel_rfl
@[go_sem] theorem st26 : Try.prog.stoodInHeld 26 = false := by kernel_rfl
@[go_sem] theorem eqs26 (d : Nat) (xs ys : List CV) : eqV Try.prog (d + 1) 26 (.agg xs) (.agg ys) = eqF Try.prog d xs ys (match Try.prog.underlying 26 with | some (.struct fs) => fs.toList | _ => []) := by rw [Try.underlying26]; exact eqV_struct Try.underlying26 st26 d xs ys
@[go_sem] theorem sz27 : szOf Try.prog 27 = some 1 := by kernel_rfl
@[go_sem] theorem ag27 : aggT Try.prog 27 = false := by kernel_rfl
@[go_sem] theorem by27 : Try.prog.bytesOf 27 = 8 := by kernel_rfl
@[go_sem] theorem un27 : (Try.prog.underlying 27).isNone = false := by kernel_rfl
@[go_sem] theorem zo27 : zerosOf Try.prog 27 = some [.nilP] := by kernel_rfl
attribute [go_sem] Try.underlying27
@[go_sem] theorem sz35 : szOf Try.prog 35 = some 19 := by kernel_rfl
@[go_sem] theorem ag35 : aggT Try.prog 35 = true := by kernel_rfl
@[go_sem] theorem by35 : Try.prog.bytesOf 35 = 40 := by kernel_rfl
@[go_sem] theorem un35 : (Try.prog.underlying 35).isNone = false := by kernel_rfl
@[go_sem] theorem zo35 : zerosOf Try.prog 35 = some [.bool false, .int .u8 0, .int .u8 0, .int .u8 0, .int .u8 0, .int .u8 0, .int .u8 0, .int .u8 0, .int .u8 0, .int .u8 0, .int .u8 0, .int .u8 0, .int .u8 0, .int .u8 0, .int .u8 0, .int .u8 0, .int .u8 0, .int .i64 0, .int .i64 0] := by kernel_rfl
attribute [go_sem] Try.underlying35
@[go_sem] theorem gd35 : Try.prog.eqGuardType Try.prog.depth 35 = false := by kernel_rfl
@[go_sem] theorem st35 : Try.prog.stoodInHeld 35 = false := by kernel_rfl
@[go_sem] theorem eqs35 (d : Nat) (xs ys : List CV) : eqV Try.prog (d + 1) 35 (.agg xs) (.agg ys) = eqF Try.prog d xs ys (match Try.prog.underlying 35 with | some (.struct fs) => fs.toList | _ => []) := by rw [Try.underlying35]; exact eqV_struct Try.underlying35 st35 d xs ys
@[go_sem] theorem sz36 : szOf Try.prog 36 = some 19 := by kernel_rfl
@[go_sem] theorem ag36 : aggT Try.prog 36 = true := by kernel_rfl
@[go_sem] theorem by36 : Try.prog.bytesOf 36 = 40 := by kernel_rfl
@[go_sem] theorem un36 : (Try.prog.underlying 36).isNone = false := by kernel_rfl
@[go_sem] theorem zo36 : zerosOf Try.prog 36 = some [.bool false, .int .u8 0, .int .u8 0, .int .u8 0, .int .u8 0, .int .u8 0, .int .u8 0, .int .u8 0, .int .u8 0, .int .u8 0, .int .u8 0, .int .u8 0, .int .u8 0, .int .u8 0, .int .u8 0, .int .u8 0, .int .u8 0, .int .i64 0, .int .i64 0] := by kernel_rfl
attribute [go_sem] Try.underlying36
@[go_sem] theorem gd36 : Try.prog.eqGuardType Try.prog.depth 36 = false := by kernel_rfl
@[go_sem] theorem st36 : Try.prog.stoodInHeld 36 = false := by kernel_rfl
@[go_sem] theorem eqs36 (d : Nat) (xs ys : List CV) : eqV Try.prog (d + 1) 36 (.agg xs) (.agg ys) = eqF Try.prog d xs ys (match Try.prog.underlying 36 with | some (.struct fs) => fs.toList | _ => []) := by rw [Try.underlying36]; exact eqV_struct Try.underlying36 st36 d xs ys
@[go_sem] theorem sz37 : szOf Try.prog 37 = some 1 := by kernel_rfl
@[go_sem] theorem ag37 : aggT Try.prog 37 = false := by kernel_rfl
@[go_sem] theorem by37 : Try.prog.bytesOf 37 = 24 := by kernel_rfl
@[go_sem] theorem un37 : (Try.prog.underlying 37).isNone = false := by kernel_rfl
@[go_sem] theorem zo37 : zerosOf Try.prog 37 = some [.nilS] := by kernel_rfl
attribute [go_sem] Try.underlying37
@[go_sem] theorem el37 : elemT Try.prog 37 = some 26 := by kernel_rfl
@[go_sem] theorem ap37 (B : List Box) (s x : CV) : appendC Try.prog 37 B s x = appendK Try.prog 26 17 B s x := appendC_eq (by kernel_rfl) (by kernel_rfl) (by kernel_rfl) B s x
@[go_sem] theorem sz40 : szOf Try.prog 40 = some 1 := by kernel_rfl
@[go_sem] theorem ag40 : aggT Try.prog 40 = false := by kernel_rfl
@[go_sem] theorem by40 : Try.prog.bytesOf 40 = 24 := by kernel_rfl
@[go_sem] theorem un40 : (Try.prog.underlying 40).isNone = false := by kernel_rfl
@[go_sem] theorem zo40 : zerosOf Try.prog 40 = some [.nilS] := by kernel_rfl
attribute [go_sem] Try.underlying40
@[go_sem] theorem el40 : elemT Try.prog 40 = some 2 := by kernel_rfl
@[go_sem] theorem ap40 (B : List Box) (s x : CV) : appendC Try.prog 40 B s x = appendK Try.prog 2 1 B s x := appendC_eq (by kernel_rfl) (by kernel_rfl) (by kernel_rfl) B s x
@[go_sem] theorem sz44 : szOf Try.prog 44 = some 1 := by kernel_rfl
@[go_sem] theorem ag44 : aggT Try.prog 44 = false := by kernel_rfl
@[go_sem] theorem by44 : Try.prog.bytesOf 44 = 24 := by kernel_rfl
@[go_sem] theorem un44 : (Try.prog.underlying 44).isNone = false := by kernel_rfl
@[go_sem] theorem zo44 : zerosOf Try.prog 44 = some [.nilS] := by kernel_rfl
attribute [go_sem] Try.underlying44
@[go_sem] theorem el44 : elemT Try.prog 44 = some 3 := by kernel_rfl
@[go_sem] theorem ap44 (B : List Box) (s x : CV) : appendC Try.prog 44 B s x = appendK Try.prog 3 1 B s x := appendC_eq (by kernel_rfl) (by kernel_rfl) (by kernel_rfl) B s x
@[go_sem] theorem sz48 : szOf Try.prog 48 = some 2 := by kernel_rfl
@[go_sem] theorem ag48 : aggT Try.prog 48 = true := by kernel_rfl
@[go_sem] theorem by48 : Try.prog.bytesOf 48 = 32 := by kernel_rfl
@[go_sem] theorem un48 : (Try.prog.underlying 48).isNone = false := by kernel_rfl
@[go_sem] theorem zo48 : zerosOf Try.prog 48 = some [.nilS, .int .i64 0] := by kernel_rfl
attribute [go_sem] Try.underlying48
@[go_sem] theorem gd48 : Try.prog.eqGuardType Try.prog.depth 48 = false := by kernel_rfl
@[go_sem] theorem st48 : Try.prog.stoodInHeld 48 = false := by kernel_rfl
@[go_sem] theorem eqs48 (d : Nat) (xs ys : List CV) : eqV Try.prog (d + 1) 48 (.agg xs) (.agg ys) = eqF Try.prog d xs ys (match Try.prog.underlying 48 with | some (.struct fs) => fs.toList | _ => []) := by rw [Try.underlying48]; exact eqV_struct Try.underlying48 st48 d xs ys
@[go_sem] theorem sz49 : szOf Try.prog 49 = some 2 := by kernel_rfl
@[go_sem] theorem ag49 : aggT Try.prog 49 = true := by kernel_rfl
@[go_sem] theorem by49 : Try.prog.bytesOf 49 = 32 := by kernel_rfl
@[go_sem] theorem un49 : (Try.prog.underlying 49).isNone = false := by kernel_rfl
@[go_sem] theorem zo49 : zerosOf Try.prog 49 = some [.nilS, .int .i64 0] := by kernel_rfl
attribute [go_sem] Try.underlying49
@[go_sem] theorem gd49 : Try.prog.eqGuardType Try.prog.depth 49 = false := by kernel_rfl
@[go_sem] theorem st49 : Try.prog.stoodInHeld 49 = false := by kernel_rfl
@[go_sem] theorem eqs49 (d : Nat) (xs ys : List CV) : eqV Try.prog (d + 1) 49 (.agg xs) (.agg ys) = eqF Try.prog d xs ys (match Try.prog.underlying 49 with | some (.struct fs) => fs.toList | _ => []) := by rw [Try.underlying49]; exact eqV_struct Try.underlying49 st49 d xs ys
@[go_sem] theorem sz60 : szOf Try.prog 60 = some 1 := by kernel_rfl
@[go_sem] theorem ag60 : aggT Try.prog 60 = false := by kernel_rfl
@[go_sem] theorem by60 : Try.prog.bytesOf 60 = 8 := by kernel_rfl
@[go_sem] theorem un60 : (Try.prog.underlying 60).isNone = false := by kernel_rfl
@[go_sem] theorem zo60 : zerosOf Try.prog 60 = some [.int .u64 0] := by kernel_rfl
attribute [go_sem] Try.underlying60
@[go_sem] theorem eql60 (d : Nat) (k : IntKind) (a b : Int) : eqV Try.prog (d + 1) 60 (.int k a) (.int k b) = some (a == b) := eqV_int Try.underlying60 d k a b
@[go_sem] theorem sz65 : szOf Try.prog 65 = some 4 := by kernel_rfl
@[go_sem] theorem ag65 : aggT Try.prog 65 = true := by kernel_rfl
@[go_sem] theorem by65 : Try.prog.bytesOf 65 = 40 := by kernel_rfl
@[go_sem] theorem un65 : (Try.prog.underlying 65).isNone = false := by kernel_rfl
@[go_sem] theorem zo65 : zerosOf Try.prog 65 = some [.nilP, .nilP, .nilP, .str []] := by kernel_rfl
attribute [go_sem] Try.underlying65
@[go_sem] theorem gd65 : Try.prog.eqGuardType Try.prog.depth 65 = false := by kernel_rfl
@[go_sem] theorem sz66 : szOf Try.prog 66 = some 4 := by kernel_rfl
@[go_sem] theorem ag66 : aggT Try.prog 66 = true := by kernel_rfl
@[go_sem] theorem by66 : Try.prog.bytesOf 66 = 40 := by kernel_rfl
@[go_sem] theorem un66 : (Try.prog.underlying 66).isNone = false := by kernel_rfl
@[go_sem] theorem zo66 : zerosOf Try.prog 66 = some [.nilP, .nilP, .nilP, .str []] := by kernel_rfl
attribute [go_sem] Try.underlying66
@[go_sem] theorem gd66 : Try.prog.eqGuardType Try.prog.depth 66 = false := by kernel_rfl
@[go_sem] theorem sz67 : szOf Try.prog 67 = some 0 := by kernel_rfl
@[go_sem] theorem ag67 : aggT Try.prog 67 = true := by kernel_rfl
@[go_sem] theorem by67 : Try.prog.bytesOf 67 = 0 := by kernel_rfl
@[go_sem] theorem un67 : (Try.prog.underlying 67).isNone = false := by kernel_rfl
@[go_sem] theorem zo67 : zerosOf Try.prog 67 = some [] := by kernel_rfl
attribute [go_sem] Try.underlying67
@[go_sem] theorem gd67 : Try.prog.eqGuardType Try.prog.depth 67 = false := by kernel_rfl
@[go_sem] theorem sz68 : szOf Try.prog 68 = some 0 := by kernel_rfl
@[go_sem] theorem ag68 : aggT Try.prog 68 = true := by kernel_rfl
@[go_sem] theorem by68 : Try.prog.bytesOf 68 = 0 := by kernel_rfl
@[go_sem] theorem un68 : (Try.prog.underlying 68).isNone = false := by kernel_rfl
@[go_sem] theorem zo68 : zerosOf Try.prog 68 = some [] := by kernel_rfl
attribute [go_sem] Try.underlying68
@[go_sem] theorem gd68 : Try.prog.eqGuardType Try.prog.depth 68 = false := by kernel_rfl
@[go_sem] theorem sz69 : szOf Try.prog 69 = some 0 := by kernel_rfl
@[go_sem] theorem ag69 : aggT Try.prog 69 = true := by kernel_rfl
@[go_sem] theorem by69 : Try.prog.bytesOf 69 = 0 := by kernel_rfl
@[go_sem] theorem un69 : (Try.prog.underlying 69).isNone = false := by kernel_rfl
@[go_sem] theorem zo69 : zerosOf Try.prog 69 = some [] := by kernel_rfl
attribute [go_sem] Try.underlying69
@[go_sem] theorem gd69 : Try.prog.eqGuardType Try.prog.depth 69 = false := by kernel_rfl
@[go_sem] theorem sz71 : szOf Try.prog 71 = some 1 := by kernel_rfl
@[go_sem] theorem ag71 : aggT Try.prog 71 = false := by kernel_rfl
@[go_sem] theorem by71 : Try.prog.bytesOf 71 = 4 := by kernel_rfl
@[go_sem] theorem un71 : (Try.prog.underlying 71).isNone = false := by kernel_rfl
@[go_sem] theorem zo71 : zerosOf Try.prog 71 = some [.int .u32 0] := by kernel_rfl
attribute [go_sem] Try.underlying71
@[go_sem] theorem eql71 (d : Nat) (k : IntKind) (a b : Int) : eqV Try.prog (d + 1) 71 (.int k a) (.int k b) = some (a == b) := eqV_int Try.underlying71 d k a b
@[go_sem] theorem sz72 : szOf Try.prog 72 = some 1 := by kernel_rfl
@[go_sem] theorem ag72 : aggT Try.prog 72 = false := by kernel_rfl
@[go_sem] theorem by72 : Try.prog.bytesOf 72 = 1 := by kernel_rfl
@[go_sem] theorem un72 : (Try.prog.underlying 72).isNone = false := by kernel_rfl
@[go_sem] theorem zo72 : zerosOf Try.prog 72 = some [.int .u8 0] := by kernel_rfl
attribute [go_sem] Try.underlying72
@[go_sem] theorem eql72 (d : Nat) (k : IntKind) (a b : Int) : eqV Try.prog (d + 1) 72 (.int k a) (.int k b) = some (a == b) := eqV_int Try.underlying72 d k a b
@[go_sem] theorem sz73 : szOf Try.prog 73 = some 1 := by kernel_rfl
@[go_sem] theorem ag73 : aggT Try.prog 73 = false := by kernel_rfl
@[go_sem] theorem by73 : Try.prog.bytesOf 73 = 1 := by kernel_rfl
@[go_sem] theorem un73 : (Try.prog.underlying 73).isNone = false := by kernel_rfl
@[go_sem] theorem zo73 : zerosOf Try.prog 73 = some [.int .u8 0] := by kernel_rfl
attribute [go_sem] Try.underlying73
@[go_sem] theorem eql73 (d : Nat) (k : IntKind) (a b : Int) : eqV Try.prog (d + 1) 73 (.int k a) (.int k b) = some (a == b) := eqV_int Try.underlying73 d k a b
@[go_sem] theorem sz75 : szOf Try.prog 75 = some 1 := by kernel_rfl
@[go_sem] theorem ag75 : aggT Try.prog 75 = false := by kernel_rfl
@[go_sem] theorem by75 : Try.prog.bytesOf 75 = 8 := by kernel_rfl
@[go_sem] theorem un75 : (Try.prog.underlying 75).isNone = false := by kernel_rfl
@[go_sem] theorem zo75 : zerosOf Try.prog 75 = some [.nilP] := by kernel_rfl
attribute [go_sem] Try.underlying75
@[go_sem] theorem sz76 : szOf Try.prog 76 = some 1 := by kernel_rfl
@[go_sem] theorem ag76 : aggT Try.prog 76 = false := by kernel_rfl
@[go_sem] theorem by76 : Try.prog.bytesOf 76 = 4 := by kernel_rfl
@[go_sem] theorem un76 : (Try.prog.underlying 76).isNone = false := by kernel_rfl
@[go_sem] theorem zo76 : zerosOf Try.prog 76 = some [.int .i32 0] := by kernel_rfl
attribute [go_sem] Try.underlying76
@[go_sem] theorem eql76 (d : Nat) (k : IntKind) (a b : Int) : eqV Try.prog (d + 1) 76 (.int k a) (.int k b) = some (a == b) := eqV_int Try.underlying76 d k a b
@[go_sem] theorem sz77 : szOf Try.prog 77 = some 1 := by kernel_rfl
@[go_sem] theorem ag77 : aggT Try.prog 77 = false := by kernel_rfl
@[go_sem] theorem by77 : Try.prog.bytesOf 77 = 4 := by kernel_rfl
@[go_sem] theorem un77 : (Try.prog.underlying 77).isNone = false := by kernel_rfl
@[go_sem] theorem zo77 : zerosOf Try.prog 77 = some [.int .i32 0] := by kernel_rfl
attribute [go_sem] Try.underlying77
@[go_sem] theorem eql77 (d : Nat) (k : IntKind) (a b : Int) : eqV Try.prog (d + 1) 77 (.int k a) (.int k b) = some (a == b) := eqV_int Try.underlying77 d k a b
@[go_sem] theorem sz78 : szOf Try.prog 78 = some 11 := by kernel_rfl
@[go_sem] theorem ag78 : aggT Try.prog 78 = true := by kernel_rfl
@[go_sem] theorem by78 : Try.prog.bytesOf 78 = 48 := by kernel_rfl
@[go_sem] theorem un78 : (Try.prog.underlying 78).isNone = false := by kernel_rfl
@[go_sem] theorem zo78 : zerosOf Try.prog 78 = some [.int .u64 0, .int .u64 0, .int .u32 0, .int .u8 0, .int .u8 0, .int .u8 0, .int .u8 0, .nilF, .nilP, .int .i32 0, .int .i32 0] := by kernel_rfl
attribute [go_sem] Try.underlying78
@[go_sem] theorem gd78 : Try.prog.eqGuardType Try.prog.depth 78 = false := by kernel_rfl
@[go_sem] theorem sz79 : szOf Try.prog 79 = some 11 := by kernel_rfl
@[go_sem] theorem ag79 : aggT Try.prog 79 = true := by kernel_rfl
@[go_sem] theorem by79 : Try.prog.bytesOf 79 = 48 := by kernel_rfl
@[go_sem] theorem un79 : (Try.prog.underlying 79).isNone = false := by kernel_rfl
@[go_sem] theorem zo79 : zerosOf Try.prog 79 = some [.int .u64 0, .int .u64 0, .int .u32 0, .int .u8 0, .int .u8 0, .int .u8 0, .int .u8 0, .nilF, .nilP, .int .i32 0, .int .i32 0] := by kernel_rfl
attribute [go_sem] Try.underlying79
@[go_sem] theorem gd79 : Try.prog.eqGuardType Try.prog.depth 79 = false := by kernel_rfl
@[go_sem] theorem sz80 : szOf Try.prog 80 = some 1 := by kernel_rfl
@[go_sem] theorem ag80 : aggT Try.prog 80 = false := by kernel_rfl
@[go_sem] theorem by80 : Try.prog.bytesOf 80 = 8 := by kernel_rfl
@[go_sem] theorem un80 : (Try.prog.underlying 80).isNone = false := by kernel_rfl
@[go_sem] theorem zo80 : zerosOf Try.prog 80 = some [.nilP] := by kernel_rfl
attribute [go_sem] Try.underlying80
-- 0 main.main
-- 1 gosem.cut
-- 2 gosem.cut.init
theorem ca2 : callable Try.prog 2 = true := by kernel_rfl
-- 3 burrow/burrowlaw19.LimiterAllows
theorem ca3 : callable Try.prog 3 = true := by kernel_rfl
-- 4 burrow/burrowlaw19.LimiterBounds
theorem ca4 : callable Try.prog 4 = true := by kernel_rfl
-- 5 burrow/burrowlaw19.LimiterNotes
theorem ca5 : callable Try.prog 5 = true := by kernel_rfl
-- 6 burrow/burrowlaw19.LimiterLoads
theorem ca6 : callable Try.prog 6 = true := by kernel_rfl
-- 7 burrow/burrowcase.New
theorem ca7 : callable Try.prog 7 = true := by kernel_rfl
-- 8 (*burrow/burrowcase.Codes).Left
theorem ca8 : callable Try.prog 8 = true := by kernel_rfl
-- 9 (*burrow/burrowcase.Codes).Next
theorem ca9 : callable Try.prog 9 = true := by kernel_rfl
-- 10 burrow/limiter.Allow
theorem ca10 : callable Try.prog 10 = true := by kernel_rfl
-- 11 burrow/burrowref14.Allow
theorem ca11 : callable Try.prog 11 = true := by kernel_rfl
-- 12 burrow/burrowlaw19.buckets
theorem ca12 : callable Try.prog 12 = true := by kernel_rfl
-- 13 burrow/burrowcase.Mod64
theorem ca13 : callable Try.prog 13 = true := by kernel_rfl
-- 14 burrow/burrowlaw19.begun
theorem ca14 : callable Try.prog 14 = true := by kernel_rfl
-- 15 burrow/limiter.Note
theorem ca15 : callable Try.prog 15 = true := by kernel_rfl
-- 16 burrow/burrowlaw19.times
theorem ca16 : callable Try.prog 16 = true := by kernel_rfl
-- 17 burrow/burrowref14.Note
theorem ca17 : callable Try.prog 17 = true := by kernel_rfl
-- 18 burrow/burrowcase.Mod
theorem ca18 : callable Try.prog 18 = true := by kernel_rfl
-- 19 burrow/limiter.Loaded
theorem ca19 : callable Try.prog 19 = true := by kernel_rfl
-- 20 burrow/burrowref14.Loaded
theorem ca20 : callable Try.prog 20 = true := by kernel_rfl
-- 21 slices.Clone[[]burrow/api.Bucket,burrow/api.Bucket]
theorem ca21 : callable Try.prog 21 = true := by kernel_rfl
-- 22 burrow/limiter.find[burrow/api.Bucket]
theorem ca22 : callable Try.prog 22 = true := by kernel_rfl
-- 23 burrow/limiter.Allow$1
theorem ca23 : callable Try.prog 23 = true := by kernel_rfl
-- 24 burrow/limiter.filled
theorem ca24 : callable Try.prog 24 = true := by kernel_rfl
-- 25 burrow/limiter.oldest
theorem ca25 : callable Try.prog 25 = true := by kernel_rfl
-- 26 slices.Delete[[]burrow/api.Bucket,burrow/api.Bucket]
theorem ca26 : callable Try.prog 26 = true := by kernel_rfl
-- 27 burrow/limiter.Allow$2
theorem ca27 : callable Try.prog 27 = true := by kernel_rfl
-- 28 burrow/inner.Less
theorem ca28 : callable Try.prog 28 = true := by kernel_rfl
-- 29 slices.Insert[[]burrow/api.Bucket,burrow/api.Bucket]
theorem ca29 : callable Try.prog 29 = true := by kernel_rfl
-- 30 burrow/burrowref14.oldest
theorem ca30 : callable Try.prog 30 = true := by kernel_rfl
-- 31 burrow/burrowref09.Less
theorem ca31 : callable Try.prog 31 = true := by kernel_rfl
-- 32 burrow/burrowref14.filled
theorem ca32 : callable Try.prog 32 = true := by kernel_rfl
-- 33 burrow/limiter.recent
theorem ca33 : callable Try.prog 33 = true := by kernel_rfl
-- 34 burrow/burrowref14.recent
theorem ca34 : callable Try.prog 34 = true := by kernel_rfl
-- 35 slices.IndexFunc[[]burrow/api.Bucket,burrow/api.Bucket]
theorem ca35 : callable Try.prog 35 = true := by kernel_rfl
-- 36 bytes.Compare
theorem ca36 : callable Try.prog 36 = true := by kernel_rfl
-- 37 slices.overlaps[burrow/api.Bucket]
-- 38 slices.rotateRight[burrow/api.Bucket]
theorem ca38 : callable Try.prog 38 = true := by kernel_rfl
-- 39 internal/bytealg.Compare
-- 40 slices.rotateLeft[burrow/api.Bucket]
theorem ca40 : callable Try.prog 40 = true := by kernel_rfl
-- 41 slices.Reverse[[]burrow/api.Bucket,burrow/api.Bucket]
theorem ca41 : callable Try.prog 41 = true := by kernel_rfl
-- 42 (runtime.boundsError).Error
-- 43 (runtime.boundsError).RuntimeError
-- 44 (runtime.errorString).Error
-- 45 (runtime.errorString).RuntimeError
-- 46 (runtime.plainError).Error
-- 47 (runtime.plainError).RuntimeError
-- 48 (runtime.errorAddressString).Error
-- 49 (runtime.errorAddressString).RuntimeError
-- 50 (*runtime.TypeAssertionError).Error
-- 51 (*runtime.TypeAssertionError).RuntimeError
-- 52 (*runtime.PanicNilError).Error
-- 53 (*runtime.PanicNilError).RuntimeError
-- 54 (*internal/abi.Type).Align
-- 55 (internal/runtime/maps.unhashableTypeError).Error
-- 56 (internal/runtime/maps.unhashableTypeError).RuntimeError
-- 57 (*burrow/burrowcase.Codes).Bool
-- 58 (internal/abi.Kind).String

end Go.Proofs.Ytfnpfpjcgfndhaa
