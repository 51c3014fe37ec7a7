/- Closed facts of the seat program for the canonical machine: printed by facts.py. -/
import Derived.Test.YtmcnajknmoldpaaSyX
import Derived.Test.YtmcnajknmoldpaaRows
import Derived.KernelRfl
namespace Go.Proofs.Ytmcnajknmoldpaa
open Go Go.Sy

theorem mixed : Try.prog.follows .mixedOrders = true := by kernel_rfl
@[go_sem] theorem sz2 : szOf Try.prog 2 = some 1 := by kernel_rfl
@[go_sem] theorem ag2 : aggT Try.prog 2 = false := by kernel_rfl
@[go_sem] theorem by2 : Try.prog.bytesOf 2 = 8 := by kernel_rfl
@[go_sem] theorem un2 : (Try.prog.underlying 2).isNone = false := by kernel_rfl
@[go_sem] theorem zo2 : zerosOf Try.prog 2 = some [.int .i64 0] := by kernel_rfl
attribute [go_sem] Try.underlying2
@[go_sem] theorem eql2 (d : Nat) (k : IntKind) (a b : Int) : eqV Try.prog (d + 1) 2 (.int k a) (.int k b) = some (a == b) := eqV_int Try.underlying2 d k a b
@[go_sem] theorem sz3 : szOf Try.prog 3 = some 1 := by kernel_rfl
@[go_sem] theorem ag3 : aggT Try.prog 3 = false := by kernel_rfl
@[go_sem] theorem by3 : Try.prog.bytesOf 3 = 8 := by kernel_rfl
@[go_sem] theorem un3 : (Try.prog.underlying 3).isNone = false := by kernel_rfl
@[go_sem] theorem zo3 : zerosOf Try.prog 3 = some [.int .i64 0] := by kernel_rfl
attribute [go_sem] Try.underlying3
@[go_sem] theorem eql3 (d : Nat) (k : IntKind) (a b : Int) : eqV Try.prog (d + 1) 3 (.int k a) (.int k b) = some (a == b) := eqV_int Try.underlying3 d k a b
@[go_sem] theorem sz4 : szOf Try.prog 4 = some 1 := by kernel_rfl
@[go_sem] theorem ag4 : aggT Try.prog 4 = false := by kernel_rfl
@[go_sem] theorem by4 : Try.prog.bytesOf 4 = 1 := by kernel_rfl
@[go_sem] theorem un4 : (Try.prog.underlying 4).isNone = false := by kernel_rfl
@[go_sem] theorem zo4 : zerosOf Try.prog 4 = some [.bool false] := by kernel_rfl
attribute [go_sem] Try.underlying4
@[go_sem] theorem eql4 (d : Nat) (a b : Bool) : eqV Try.prog (d + 1) 4 (.bool a) (.bool b) = some (a == b) := eqV_bool Try.underlying4 d a b
@[go_sem] theorem sz5 : szOf Try.prog 5 = some 1 := by kernel_rfl
@[go_sem] theorem ag5 : aggT Try.prog 5 = false := by kernel_rfl
@[go_sem] theorem by5 : Try.prog.bytesOf 5 = 1 := by kernel_rfl
@[go_sem] theorem un5 : (Try.prog.underlying 5).isNone = false := by kernel_rfl
@[go_sem] theorem zo5 : zerosOf Try.prog 5 = some [.int .u8 0] := by kernel_rfl
attribute [go_sem] Try.underlying5
@[go_sem] theorem eql5 (d : Nat) (k : IntKind) (a b : Int) : eqV Try.prog (d + 1) 5 (.int k a) (.int k b) = some (a == b) := eqV_int Try.underlying5 d k a b
@[go_sem] theorem sz6 : szOf Try.prog 6 = some 1 := by kernel_rfl
@[go_sem] theorem ag6 : aggT Try.prog 6 = false := by kernel_rfl
@[go_sem] theorem by6 : Try.prog.bytesOf 6 = 1 := by kernel_rfl
@[go_sem] theorem un6 : (Try.prog.underlying 6).isNone = false := by kernel_rfl
@[go_sem] theorem zo6 : zerosOf Try.prog 6 = some [.int .u8 0] := by kernel_rfl
attribute [go_sem] Try.underlying6
@[go_sem] theorem eql6 (d : Nat) (k : IntKind) (a b : Int) : eqV Try.prog (d + 1) 6 (.int k a) (.int k b) = some (a == b) := eqV_int Try.underlying6 d k a b
@[go_sem] theorem sz7 : szOf Try.prog 7 = some 4 := by kernel_rfl
@[go_sem] theorem ag7 : aggT Try.prog 7 = true := by kernel_rfl
@[go_sem] theorem by7 : Try.prog.bytesOf 7 = 24 := by kernel_rfl
@[go_sem] theorem un7 : (Try.prog.underlying 7).isNone = false := by kernel_rfl
@[go_sem] theorem zo7 : zerosOf Try.prog 7 = some [.int .i64 0, .int .i64 0, .bool false, .int .u8 0] := by kernel_rfl
attribute [go_sem] Try.underlying7
@[go_sem] theorem gd7 : Try.prog.eqGuardType Try.prog.depth 7 = false := by kernel_rfl
@[go_sem] theorem st7 : Try.prog.stoodInHeld 7 = false := by kernel_rfl
@[go_sem] theorem eqs7 (d : Nat) (xs ys : List CV) : eqV Try.prog (d + 1) 7 (.agg xs) (.agg ys) = eqF Try.prog d xs ys (match Try.prog.underlying 7 with | some (.struct fs) => fs.toList | _ => []) := by rw [Try.underlying7]; exact eqV_struct Try.underlying7 st7 d xs ys
@[go_sem] theorem sz8 : szOf Try.prog 8 = some 4 := by kernel_rfl
@[go_sem] theorem ag8 : aggT Try.prog 8 = true := by kernel_rfl
@[go_sem] theorem by8 : Try.prog.bytesOf 8 = 24 := by kernel_rfl
@[go_sem] theorem un8 : (Try.prog.underlying 8).isNone = false := by kernel_rfl
@[go_sem] theorem zo8 : zerosOf Try.prog 8 = some [.int .i64 0, .int .i64 0, .bool false, .int .u8 0] := by kernel_rfl
attribute [go_sem] Try.underlying8
@[go_sem] theorem gd8 : Try.prog.eqGuardType Try.prog.depth 8 = false := by kernel_rfl
@[go_sem] theorem st8 : Try.prog.stoodInHeld 8 = false := by kernel_rfl
@[go_sem] theorem eqs8 (d : Nat) (xs ys : List CV) : eqV Try.prog (d + 1) 8 (.agg xs) (.agg ys) = eqF Try.prog d xs ys (match Try.prog.underlying 8 with | some (.struct fs) => fs.toList | _ => []) := by rw [Try.underlying8]; exact eqV_struct Try.underlying8 st8 d xs ys
@[go_sem] theorem sz9 : szOf Try.prog 9 = some 1 := by kernel_rfl
@[go_sem] theorem ag9 : aggT Try.prog 9 = false := by kernel_rfl
@[go_sem] theorem by9 : Try.prog.bytesOf 9 = 16 := by kernel_rfl
@[go_sem] theorem un9 : (Try.prog.underlying 9).isNone = false := by kernel_rfl
@[go_sem] theorem zo9 : zerosOf Try.prog 9 = some [.str []] := by kernel_rfl
attribute [go_sem] Try.underlying9
@[go_sem] theorem eql9 (d : Nat) (a b : List UInt8) : eqV Try.prog (d + 1) 9 (.str a) (.str b) = some (a == b) := eqV_str Try.underlying9 d a b
@[go_sem] theorem sz10 : szOf Try.prog 10 = some 1 := by kernel_rfl
@[go_sem] theorem ag10 : aggT Try.prog 10 = false := by kernel_rfl
@[go_sem] theorem by10 : Try.prog.bytesOf 10 = 16 := by kernel_rfl
@[go_sem] theorem un10 : (Try.prog.underlying 10).isNone = false := by kernel_rfl
@[go_sem] theorem zo10 : zerosOf Try.prog 10 = some [.str []] := by kernel_rfl
attribute [go_sem] Try.underlying10
@[go_sem] theorem eql10 (d : Nat) (a b : List UInt8) : eqV Try.prog (d + 1) 10 (.str a) (.str b) = some (a == b) := eqV_str Try.underlying10 d a b
@[go_sem] theorem sz11 : szOf Try.prog 11 = some 1 := by kernel_rfl
@[go_sem] theorem ag11 : aggT Try.prog 11 = false := by kernel_rfl
@[go_sem] theorem by11 : Try.prog.bytesOf 11 = 16 := by kernel_rfl
@[go_sem] theorem un11 : (Try.prog.underlying 11).isNone = false := by kernel_rfl
@[go_sem] theorem zo11 : zerosOf Try.prog 11 = some [.str []] := by kernel_rfl
attribute [go_sem] Try.underlying11
@[go_sem] theorem eql11 (d : Nat) (a b : List UInt8) : eqV Try.prog (d + 1) 11 (.str a) (.str b) = some (a == b) := eqV_str Try.underlying11 d a b
@[go_sem] theorem sz12 : szOf Try.prog 12 = some 1 := by kernel_rfl
@[go_sem] theorem ag12 : aggT Try.prog 12 = false := by kernel_rfl
@[go_sem] theorem by12 : Try.prog.bytesOf 12 = 8 := by kernel_rfl
@[go_sem] theorem un12 : (Try.prog.underlying 12).isNone = false := by kernel_rfl
@[go_sem] theorem zo12 : zerosOf Try.prog 12 = some [.int .u64 0] := by kernel_rfl
attribute [go_sem] Try.underlying12
@[go_sem] theorem eql12 (d : Nat) (k : IntKind) (a b : Int) : eqV Try.prog (d + 1) 12 (.int k a) (.int k b) = some (a == b) := eqV_int Try.underlying12 d k a b
@[go_sem] theorem sz13 : szOf Try.prog 13 = some 2 := by kernel_rfl
@[go_sem] theorem ag13 : aggT Try.prog 13 = true := by kernel_rfl
@[go_sem] theorem by13 : Try.prog.bytesOf 13 = 24 := by kernel_rfl
@[go_sem] theorem un13 : (Try.prog.underlying 13).isNone = false := by kernel_rfl
@[go_sem] theorem zo13 : zerosOf Try.prog 13 = some [.str [], .int .u64 0] := by kernel_rfl
attribute [go_sem] Try.underlying13
@[go_sem] theorem gd13 : Try.prog.eqGuardType Try.prog.depth 13 = false := by kernel_rfl
@[go_sem] theorem sz14 : szOf Try.prog 14 = some 2 := by kernel_rfl
@[go_sem] theorem ag14 : aggT Try.prog 14 = true := by kernel_rfl
@[go_sem] theorem by14 : Try.prog.bytesOf 14 = 24 := by kernel_rfl
@[go_sem] theorem un14 : (Try.prog.underlying 14).isNone = false := by kernel_rfl
@[go_sem] theorem zo14 : zerosOf Try.prog 14 = some [.str [], .int .u64 0] := by kernel_rfl
attribute [go_sem] Try.underlying14
@[go_sem] theorem gd14 : Try.prog.eqGuardType Try.prog.depth 14 = false := by kernel_rfl
@[go_sem] theorem sz15 : szOf Try.prog 15 = some 1 := by kernel_rfl
@[go_sem] theorem ag15 : aggT Try.prog 15 = false := by kernel_rfl
@[go_sem] theorem by15 : Try.prog.bytesOf 15 = 8 := by kernel_rfl
@[go_sem] theorem un15 : (Try.prog.underlying 15).isNone = false := by kernel_rfl
@[go_sem] theorem zo15 : zerosOf Try.prog 15 = some [.nilP] := by kernel_rfl
attribute [go_sem] Try.underlying15
@[go_sem] theorem sz16 : szOf Try.prog 16 = some 1 := by kernel_rfl
@[go_sem] theorem ag16 : aggT Try.prog 16 = false := by kernel_rfl
@[go_sem] theorem by16 : Try.prog.bytesOf 16 = 8 := by kernel_rfl
@[go_sem] theorem un16 : (Try.prog.underlying 16).isNone = false := by kernel_rfl
@[go_sem] theorem zo16 : zerosOf Try.prog 16 = some [.nilP] := by kernel_rfl
attribute [go_sem] Try.underlying16
@[go_sem] theorem sz17 : szOf Try.prog 17 = some 1 := by kernel_rfl
@[go_sem] theorem ag17 : aggT Try.prog 17 = false := by kernel_rfl
@[go_sem] theorem by17 : Try.prog.bytesOf 17 = 8 := by kernel_rfl
@[go_sem] theorem un17 : (Try.prog.underlying 17).isNone = false := by kernel_rfl
@[go_sem] theorem zo17 : zerosOf Try.prog 17 = some [.nilP] := by kernel_rfl
attribute [go_sem] Try.underlying17
@[go_sem] theorem sz18 : szOf Try.prog 18 = some 1 := by kernel_rfl
@[go_sem] theorem ag18 : aggT Try.prog 18 = true := by kernel_rfl
@[go_sem] theorem by18 : Try.prog.bytesOf 18 = 8 := by kernel_rfl
@[go_sem] theorem un18 : (Try.prog.underlying 18).isNone = false := by kernel_rfl
@[go_sem] theorem zo18 : zerosOf Try.prog 18 = some [.nilP] := by kernel_rfl
attribute [go_sem] Try.underlying18
@[go_sem] theorem gd18 : Try.prog.eqGuardType Try.prog.depth 18 = false := by kernel_rfl
@[go_sem] theorem sz19 : szOf Try.prog 19 = some 1 := by kernel_rfl
@[go_sem] theorem ag19 : aggT Try.prog 19 = true := by kernel_rfl
@[go_sem] theorem by19 : Try.prog.bytesOf 19 = 8 := by kernel_rfl
@[go_sem] theorem un19 : (Try.prog.underlying 19).isNone = false := by kernel_rfl
@[go_sem] theorem zo19 : zerosOf Try.prog 19 = some [.nilP] := by kernel_rfl
attribute [go_sem] Try.underlying19
@[go_sem] theorem gd19 : Try.prog.eqGuardType Try.prog.depth 19 = false := by kernel_rfl
@[go_sem] theorem sz21 : szOf Try.prog 21 = some 1 := by kernel_rfl
@[go_sem] theorem ag21 : aggT Try.prog 21 = false := by kernel_rfl
@[go_sem] theorem by21 : Try.prog.bytesOf 21 = 4 := by kernel_rfl
@[go_sem] theorem un21 : (Try.prog.underlying 21).isNone = false := by kernel_rfl
@[go_sem] theorem zo21 : zerosOf Try.prog 21 = some [.int .i32 0] := by kernel_rfl
attribute [go_sem] Try.underlying21
@[go_sem] theorem eql21 (d : Nat) (k : IntKind) (a b : Int) : eqV Try.prog (d + 1) 21 (.int k a) (.int k b) = some (a == b) := eqV_int Try.underlying21 d k a b
@[go_sem] theorem sz22 : szOf Try.prog 22 = some 1 := by kernel_rfl
@[go_sem] theorem ag22 : aggT Try.prog 22 = false := by kernel_rfl
@[go_sem] theorem by22 : Try.prog.bytesOf 22 = 24 := by kernel_rfl
@[go_sem] theorem un22 : (Try.prog.underlying 22).isNone = false := by kernel_rfl
@[go_sem] theorem zo22 : zerosOf Try.prog 22 = some [.nilS] := by kernel_rfl
attribute [go_sem] Try.underlying22
@[go_sem] theorem el22 : elemT Try.prog 22 = some 5 := by kernel_rfl
@[go_sem] theorem ap22 (B : List Box) (s x : CV) : appendC Try.prog 22 B s x = appendK Try.prog 5 1 B s x := appendC_eq (by kernel_rfl) (by kernel_rfl) (by kernel_rfl) B s x
@[go_sem] theorem sz23 : szOf Try.prog 23 = some 1 := by kernel_rfl
@[go_sem] theorem ag23 : aggT Try.prog 23 = false := by kernel_rfl
@[go_sem] theorem by23 : Try.prog.bytesOf 23 = 24 := by kernel_rfl
@[go_sem] theorem un23 : (Try.prog.underlying 23).isNone = false := by kernel_rfl
@[go_sem] theorem zo23 : zerosOf Try.prog 23 = some [.nilS] := by kernel_rfl
attribute [go_sem] Try.underlying23
@[go_sem] theorem el23 : elemT Try.prog 23 = some 37 := by kernel_rfl
@[go_sem] theorem ap23 (B : List Box) (s x : CV) : appendC Try.prog 23 B s x = appendK Try.prog 37 50 B s x := appendC_eq (by kernel_rfl) (by kernel_rfl) (by kernel_rfl) B s x
@[go_sem] theorem sz24 : szOf Try.prog 24 = some 16 := by kernel_rfl
@[go_sem] theorem ag24 : aggT Try.prog 24 = true := by kernel_rfl
@[go_sem] theorem by24 : Try.prog.bytesOf 24 = 16 := by kernel_rfl
@[go_sem] theorem un24 : (Try.prog.underlying 24).isNone = false := by kernel_rfl
@[go_sem] theorem zo24 : zerosOf Try.prog 24 = some [.int .u8 0, .int .u8 0, .int .u8 0, .int .u8 0, .int .u8 0, .int .u8 0, .int .u8 0, .int .u8 0, .int .u8 0, .int .u8 0, .int .u8 0, .int .u8 0, .int .u8 0, .int .u8 0, .int .u8 0, .int .u8 0] := by kernel_rfl
attribute [go_sem] Try.underlying24
@[go_sem] theorem gd24 : Try.prog.eqGuardType Try.prog.depth 24 = false := by kernel_rfl
@[go_sem] theorem eqb24 (l1 l2 : List UInt8) (h1 : l1.length = 16) (h2 : l2.length = 16) (d : Nat) : eqV Try.prog (d + 2) 24 (.agg (l1.map byteC)) (.agg (l2.map byteC)) = some (l1 == l2) := eqV_bytes Try.underlying24 Try.underlying5 (by kernel_rfl) (by kernel_rfl) l1 l2 h1 h2
@[go_sem] theorem eqz24 (l1 : List UInt8) (h1 : l1.length = 16) (d : Nat) : eqV Try.prog (d + 2) 24 (.agg (l1.map byteC)) (.agg [.int .u8 0, .int .u8 0, .int .u8 0, .int .u8 0, .int .u8 0, .int .u8 0, .int .u8 0, .int .u8 0, .int .u8 0, .int .u8 0, .int .u8 0, .int .u8 0, .int .u8 0, .int .u8 0, .int .u8 0, .int .u8 0]) = some (l1 == List.replicate 16 0) := eqb24 l1 (List.replicate 16 0) h1 rfl d
@[go_sem] theorem sz25 : szOf Try.prog 25 = some 17 := by kernel_rfl
@[go_sem] theorem ag25 : aggT Try.prog 25 = true := by kernel_rfl
@[go_sem] theorem by25 : Try.prog.bytesOf 25 = 17 := by kernel_rfl
@[go_sem] theorem un25 : (Try.prog.underlying 25).isNone = false := by kernel_rfl
@[go_sem] theorem zo25 : zerosOf Try.prog 25 = some [.bool false, .int .u8 0, .int .u8 0, .int .u8 0, .int .u8 0, .int .u8 0, .int .u8 0, .int .u8 0, .int .u8 0, .int .u8 0, .int .u8 0, .int .u8 0, .int .u8 0, .int .u8 0, .int .u8 0, .int .u8 0, .int .u8 0] := by kernel_rfl
attribute [go_sem] Try.underlying25
@[go_sem] theorem gd25 : Try.prog.eqGuardType Try.prog.depth 25 = false := by kernel_rfl
@[go_sem] theorem st25 : Try.prog.stoodInHeld 25 = false := by kernel_rfl
@[go_sem] theorem eqs25 (d : Nat) (xs ys : List CV) : eqV Try.prog (d + 1) 25 (.agg xs) (.agg ys) = eqF Try.prog d xs ys (match Try.prog.underlying 25 with | some (.struct fs) => fs.toList | _ => []) := by rw [Try.underlying25]; exact eqV_struct Try.underlying25 st25 d xs ys
@[go_sem] theorem sz26 : szOf Try.prog 26 = some 17 := by kernel_rfl
@[go_sem] theorem ag26 : aggT Try.prog 26 = true := by kernel_rfl
@[go_sem] theorem by26 : Try.prog.bytesOf 26 = 17 := by kernel_rfl
@[go_sem] theorem un26 : (Try.prog.underlying 26).isNone = false := by kernel_rfl
@[go_sem] theorem zo26 : zerosOf Try.prog 26 = some [.bool false, .int .u8 0, .int .u8 0, .int .u8 0, .int .u8 0, .int .u8 0, .int .u8 0, .int .u8 0, .int .u8 0, .int .u8 0, .int .u8 0, .int .u8 0, .int .u8 0, .int .u8 0, .int .u8 0, .int .u8 0, .int .u8 0] := by kernel_rfl
attribute [go_sem] Try.underlying26
@[go_sem] theorem gd26 : Try.prog.eqGuardType Try.prog.depth 26 = false := by kernel_rfl
@[go_sem] theorem st26 : Try.prog.stoodInHeld 26 = false := by kernel_rfl
@[go_sem] theorem eqs26 (d : Nat) (xs ys : List CV) : eqV Try.prog (d + 1) 26 (.agg xs) (.agg ys) = eqF Try.prog d xs ys (match Try.prog.underlying 26 with | some (.struct fs) => fs.toList | _ => []) := by rw [Try.underlying26]; exact eqV_struct Try.underlying26 st26 d xs ys
@[go_sem] theorem sz28 : szOf Try.prog 28 = some 1 := by kernel_rfl
@[go_sem] theorem ag28 : aggT Try.prog 28 = false := by kernel_rfl
@[go_sem] theorem by28 : Try.prog.bytesOf 28 = 8 := by kernel_rfl
@[go_sem] theorem un28 : (Try.prog.underlying 28).isNone = false := by kernel_rfl
@[go_sem] theorem zo28 : zerosOf Try.prog 28 = some [.nilP] := by kernel_rfl
attribute [go_sem] Try.underlying28
@[go_sem] theorem sz31 : szOf Try.prog 31 = some 1 := by kernel_rfl
@[go_sem] theorem ag31 : aggT Try.prog 31 = false := by kernel_rfl
@[go_sem] theorem by31 : Try.prog.bytesOf 31 = 24 := by kernel_rfl
@[go_sem] theorem un31 : (Try.prog.underlying 31).isNone = false := by kernel_rfl
@[go_sem] theorem zo31 : zerosOf Try.prog 31 = some [.nilS] := by kernel_rfl
attribute [go_sem] Try.underlying31
@[go_sem] theorem el31 : elemT Try.prog 31 = some 23 := by kernel_rfl
@[go_sem] theorem ap31 (B : List Box) (s x : CV) : appendC Try.prog 31 B s x = appendK Try.prog 23 1 B s x := appendC_eq (by kernel_rfl) (by kernel_rfl) (by kernel_rfl) B s x
@[go_sem] theorem sz32 : szOf Try.prog 32 = some 18 := by kernel_rfl
@[go_sem] theorem ag32 : aggT Try.prog 32 = true := by kernel_rfl
@[go_sem] theorem by32 : Try.prog.bytesOf 32 = 32 := by kernel_rfl
@[go_sem] theorem un32 : (Try.prog.underlying 32).isNone = false := by kernel_rfl
@[go_sem] theorem zo32 : zerosOf Try.prog 32 = some [.bool false, .int .u8 0, .int .u8 0, .int .u8 0, .int .u8 0, .int .u8 0, .int .u8 0, .int .u8 0, .int .u8 0, .int .u8 0, .int .u8 0, .int .u8 0, .int .u8 0, .int .u8 0, .int .u8 0, .int .u8 0, .int .u8 0, .int .i64 0] := by kernel_rfl
attribute [go_sem] Try.underlying32
@[go_sem] theorem gd32 : Try.prog.eqGuardType Try.prog.depth 32 = false := by kernel_rfl
@[go_sem] theorem st32 : Try.prog.stoodInHeld 32 = false := by kernel_rfl
@[go_sem] theorem eqs32 (d : Nat) (xs ys : List CV) : eqV Try.prog (d + 1) 32 (.agg xs) (.agg ys) = eqF Try.prog d xs ys (match Try.prog.underlying 32 with | some (.struct fs) => fs.toList | _ => []) := by rw [Try.underlying32]; exact eqV_struct Try.underlying32 st32 d xs ys
@[go_sem] theorem sz33 : szOf Try.prog 33 = some 18 := by kernel_rfl
@[go_sem] theorem ag33 : aggT Try.prog 33 = true := by kernel_rfl
@[go_sem] theorem by33 : Try.prog.bytesOf 33 = 32 := by kernel_rfl
@[go_sem] theorem un33 : (Try.prog.underlying 33).isNone = false := by kernel_rfl
@[go_sem] theorem zo33 : zerosOf Try.prog 33 = some [.bool false, .int .u8 0, .int .u8 0, .int .u8 0, .int .u8 0, .int .u8 0, .int .u8 0, .int .u8 0, .int .u8 0, .int .u8 0, .int .u8 0, .int .u8 0, .int .u8 0, .int .u8 0, .int .u8 0, .int .u8 0, .int .u8 0, .int .i64 0] := by kernel_rfl
attribute [go_sem] Try.underlying33
@[go_sem] theorem gd33 : Try.prog.eqGuardType Try.prog.depth 33 = false := by kernel_rfl
@[go_sem] theorem st33 : Try.prog.stoodInHeld 33 = false := by kernel_rfl
@[go_sem] theorem eqs33 (d : Nat) (xs ys : List CV) : eqV Try.prog (d + 1) 33 (.agg xs) (.agg ys) = eqF Try.prog d xs ys (match Try.prog.underlying 33 with | some (.struct fs) => fs.toList | _ => []) := by rw [Try.underlying33]; exact eqV_struct Try.underlying33 st33 d xs ys
@[go_sem] theorem sz34 : szOf Try.prog 34 = some 32 := by kernel_rfl
@[go_sem] theorem ag34 : aggT Try.prog 34 = true := by kernel_rfl
@[go_sem] theorem by34 : Try.prog.bytesOf 34 = 32 := by kernel_rfl
@[go_sem] theorem un34 : (Try.prog.underlying 34).isNone = false := by kernel_rfl
@[go_sem] theorem zo34 : zerosOf Try.prog 34 = some [.int .u8 0, .int .u8 0, .int .u8 0, .int .u8 0, .int .u8 0, .int .u8 0, .int .u8 0, .int .u8 0, .int .u8 0, .int .u8 0, .int .u8 0, .int .u8 0, .int .u8 0, .int .u8 0, .int .u8 0, .int .u8 0, .int .u8 0, .int .u8 0, .int .u8 0, .int .u8 0, .int .u8 0, .int .u8 0, .int .u8 0, .int .u8 0, .int .u8 0, .int .u8 0, .int .u8 0, .int .u8 0, .int .u8 0, .int .u8 0, .int .u8 0, .int .u8 0] := by kernel_rfl
attribute [go_sem] Try.underlying34
@[go_sem] theorem gd34 : Try.prog.eqGuardType Try.prog.depth 34 = false := by kernel_rfl
@[go_sem] theorem eqb34 (l1 l2 : List UInt8) (h1 : l1.length = 32) (h2 : l2.length = 32) (d : Nat) : eqV Try.prog (d + 2) 34 (.agg (l1.map byteC)) (.agg (l2.map byteC)) = some (l1 == l2) := eqV_bytes Try.underlying34 Try.underlying5 (by kernel_rfl) (by kernel_rfl) l1 l2 h1 h2
@[go_sem] theorem eqz34 (l1 : List UInt8) (h1 : l1.length = 32) (d : Nat) : eqV Try.prog (d + 2) 34 (.agg (l1.map byteC)) (.agg [.int .u8 0, .int .u8 0, .int .u8 0, .int .u8 0, .int .u8 0, .int .u8 0, .int .u8 0, .int .u8 0, .int .u8 0, .int .u8 0, .int .u8 0, .int .u8 0, .int .u8 0, .int .u8 0, .int .u8 0, .int .u8 0, .int .u8 0, .int .u8 0, .int .u8 0, .int .u8 0, .int .u8 0, .int .u8 0, .int .u8 0, .int .u8 0, .int .u8 0, .int .u8 0, .int .u8 0, .int .u8 0, .int .u8 0, .int .u8 0, .int .u8 0, .int .u8 0]) = some (l1 == List.replicate 32 0) := eqb34 l1 (List.replicate 32 0) h1 rfl d
@[go_sem] theorem sz35 : szOf Try.prog 35 = some 32 := by kernel_rfl
@[go_sem] theorem ag35 : aggT Try.prog 35 = true := by kernel_rfl
@[go_sem] theorem by35 : Try.prog.bytesOf 35 = 32 := by kernel_rfl
@[go_sem] theorem un35 : (Try.prog.underlying 35).isNone = false := by kernel_rfl
@[go_sem] theorem zo35 : zerosOf Try.prog 35 = some [.int .u8 0, .int .u8 0, .int .u8 0, .int .u8 0, .int .u8 0, .int .u8 0, .int .u8 0, .int .u8 0, .int .u8 0, .int .u8 0, .int .u8 0, .int .u8 0, .int .u8 0, .int .u8 0, .int .u8 0, .int .u8 0, .int .u8 0, .int .u8 0, .int .u8 0, .int .u8 0, .int .u8 0, .int .u8 0, .int .u8 0, .int .u8 0, .int .u8 0, .int .u8 0, .int .u8 0, .int .u8 0, .int .u8 0, .int .u8 0, .int .u8 0, .int .u8 0] := by kernel_rfl
attribute [go_sem] Try.underlying35
@[go_sem] theorem gd35 : Try.prog.eqGuardType Try.prog.depth 35 = false := by kernel_rfl
@[go_sem] theorem eqb35 (l1 l2 : List UInt8) (h1 : l1.length = 32) (h2 : l2.length = 32) (d : Nat) : eqV Try.prog (d + 2) 35 (.agg (l1.map byteC)) (.agg (l2.map byteC)) = some (l1 == l2) := eqV_bytes Try.underlying35 Try.underlying5 (by kernel_rfl) (by kernel_rfl) l1 l2 h1 h2
@[go_sem] theorem eqz35 (l1 : List UInt8) (h1 : l1.length = 32) (d : Nat) : eqV Try.prog (d + 2) 35 (.agg (l1.map byteC)) (.agg [.int .u8 0, .int .u8 0, .int .u8 0, .int .u8 0, .int .u8 0, .int .u8 0, .int .u8 0, .int .u8 0, .int .u8 0, .int .u8 0, .int .u8 0, .int .u8 0, .int .u8 0, .int .u8 0, .int .u8 0, .int .u8 0, .int .u8 0, .int .u8 0, .int .u8 0, .int .u8 0, .int .u8 0, .int .u8 0, .int .u8 0, .int .u8 0, .int .u8 0, .int .u8 0, .int .u8 0, .int .u8 0, .int .u8 0, .int .u8 0, .int .u8 0, .int .u8 0]) = some (l1 == List.replicate 32 0) := eqb35 l1 (List.replicate 32 0) h1 rfl d
@[go_sem] theorem sz36 : szOf Try.prog 36 = some 50 := by kernel_rfl
@[go_sem] theorem ag36 : aggT Try.prog 36 = true := by kernel_rfl
@[go_sem] theorem by36 : Try.prog.bytesOf 36 = 64 := by kernel_rfl
@[go_sem] theorem un36 : (Try.prog.underlying 36).isNone = false := by kernel_rfl
@[go_sem] theorem zo36 : zerosOf Try.prog 36 = some [.bool false, .int .u8 0, .int .u8 0, .int .u8 0, .int .u8 0, .int .u8 0, .int .u8 0, .int .u8 0, .int .u8 0, .int .u8 0, .int .u8 0, .int .u8 0, .int .u8 0, .int .u8 0, .int .u8 0, .int .u8 0, .int .u8 0, .int .i64 0, .int .u8 0, .int .u8 0, .int .u8 0, .int .u8 0, .int .u8 0, .int .u8 0, .int .u8 0, .int .u8 0, .int .u8 0, .int .u8 0, .int .u8 0, .int .u8 0, .int .u8 0, .int .u8 0, .int .u8 0, .int .u8 0, .int .u8 0, .int .u8 0, .int .u8 0, .int .u8 0, .int .u8 0, .int .u8 0, .int .u8 0, .int .u8 0, .int .u8 0, .int .u8 0, .int .u8 0, .int .u8 0, .int .u8 0, .int .u8 0, .int .u8 0, .int .u8 0] := by kernel_rfl
attribute [go_sem] Try.underlying36
@[go_sem] theorem gd36 : Try.prog.eqGuardType Try.prog.depth 36 = false := by kernel_rfl
@[go_sem] theorem st36 : Try.prog.stoodInHeld 36 = false := by kernel_rfl
@[go_sem] theorem eqs36 (d : Nat) (xs ys : List CV) : eqV Try.prog (d + 1) 36 (.agg xs) (.agg ys) = eqF Try.prog d xs ys (match Try.prog.underlying 36 with | some (.struct fs) => fs.toList | _ => []) := by rw [Try.underlying36]; exact eqV_struct Try.underlying36 st36 d xs ys
@[go_sem] theorem sz37 : szOf Try.prog 37 = some 50 := by kernel_rfl
@[go_sem] theorem ag37 : aggT Try.prog 37 = true := by kernel_rfl
@[go_sem] theorem by37 : Try.prog.bytesOf 37 = 64 := by kernel_rfl
@[go_sem] theorem un37 : (Try.prog.underlying 37).isNone = false := by kernel_rfl
@[go_sem] theorem zo37 : zerosOf Try.prog 37 = some [.bool false, .int .u8 0, .int .u8 0, .int .u8 0, .int .u8 0, .int .u8 0, .int .u8 0, .int .u8 0, .int .u8 0, .int .u8 0, .int .u8 0, .int .u8 0, .int .u8 0, .int .u8 0, .int .u8 0, .int .u8 0, .int .u8 0, .int .i64 0, .int .u8 0, .int .u8 0, .int .u8 0, .int .u8 0, .int .u8 0, .int .u8 0, .int .u8 0, .int .u8 0, .int .u8 0, .int .u8 0, .int .u8 0, .int .u8 0, .int .u8 0, .int .u8 0, .int .u8 0, .int .u8 0, .int .u8 0, .int .u8 0, .int .u8 0, .int .u8 0, .int .u8 0, .int .u8 0, .int .u8 0, .int .u8 0, .int .u8 0, .int .u8 0, .int .u8 0, .int .u8 0, .int .u8 0, .int .u8 0, .int .u8 0, .int .u8 0] := by kernel_rfl
attribute [go_sem] Try.underlying37
@[go_sem] theorem gd37 : Try.prog.eqGuardType Try.prog.depth 37 = false := by kernel_rfl
@[go_sem] theorem st37 : Try.prog.stoodInHeld 37 = false := by kernel_rfl
@[go_sem] theorem eqs37 (d : Nat) (xs ys : List CV) : eqV Try.prog (d + 1) 37 (.agg xs) (.agg ys) = eqF Try.prog d xs ys (match Try.prog.underlying 37 with | some (.struct fs) => fs.toList | _ => []) := by rw [Try.underlying37]; exact eqV_struct Try.underlying37 st37 d xs ys
@[go_sem] theorem sz44 : szOf Try.prog 44 = some 1 := by kernel_rfl
@[go_sem] theorem ag44 : aggT Try.prog 44 = false := by kernel_rfl
@[go_sem] theorem by44 : Try.prog.bytesOf 44 = 8 := by kernel_rfl
@[go_sem] theorem un44 : (Try.prog.underlying 44).isNone = false := by kernel_rfl
@[go_sem] theorem zo44 : zerosOf Try.prog 44 = some [.int .i64 0] := by kernel_rfl
attribute [go_sem] Try.underlying44
@[go_sem] theorem eql44 (d : Nat) (k : IntKind) (a b : Int) : eqV Try.prog (d + 1) 44 (.int k a) (.int k b) = some (a == b) := eqV_int Try.underlying44 d k a b
@[go_sem] theorem sz50 : szOf Try.prog 50 = some 1 := by kernel_rfl
@[go_sem] theorem ag50 : aggT Try.prog 50 = false := by kernel_rfl
@[go_sem] theorem by50 : Try.prog.bytesOf 50 = 24 := by kernel_rfl
@[go_sem] theorem un50 : (Try.prog.underlying 50).isNone = false := by kernel_rfl
@[go_sem] theorem zo50 : zerosOf Try.prog 50 = some [.nilS] := by kernel_rfl
attribute [go_sem] Try.underlying50
@[go_sem] theorem el50 : elemT Try.prog 50 = some 33 := by kernel_rfl
@[go_sem] theorem ap50 (B : List Box) (s x : CV) : appendC Try.prog 50 B s x = appendK Try.prog 33 18 B s x := appendC_eq (by kernel_rfl) (by kernel_rfl) (by kernel_rfl) B s x
@[go_sem] theorem sz57 : szOf Try.prog 57 = some 1 := by kernel_rfl
@[go_sem] theorem ag57 : aggT Try.prog 57 = false := by kernel_rfl
@[go_sem] theorem by57 : Try.prog.bytesOf 57 = 24 := by kernel_rfl
@[go_sem] theorem un57 : (Try.prog.underlying 57).isNone = false := by kernel_rfl
@[go_sem] theorem zo57 : zerosOf Try.prog 57 = some [.nilS] := by kernel_rfl
attribute [go_sem] Try.underlying57
@[go_sem] theorem el57 : elemT Try.prog 57 = some 35 := by kernel_rfl
@[go_sem] theorem ap57 (B : List Box) (s x : CV) : appendC Try.prog 57 B s x = appendK Try.prog 35 32 B s x := appendC_eq (by kernel_rfl) (by kernel_rfl) (by kernel_rfl) B s x
@[go_sem] theorem sz63 : szOf Try.prog 63 = some 2 := by kernel_rfl
@[go_sem] theorem ag63 : aggT Try.prog 63 = true := by kernel_rfl
@[go_sem] theorem by63 : Try.prog.bytesOf 63 = 32 := by kernel_rfl
@[go_sem] theorem un63 : (Try.prog.underlying 63).isNone = false := by kernel_rfl
@[go_sem] theorem zo63 : zerosOf Try.prog 63 = some [.nilS, .int .i64 0] := by kernel_rfl
attribute [go_sem] Try.underlying63
@[go_sem] theorem gd63 : Try.prog.eqGuardType Try.prog.depth 63 = false := by kernel_rfl
@[go_sem] theorem st63 : Try.prog.stoodInHeld 63 = false := by kernel_rfl
@[go_sem] theorem eqs63 (d : Nat) (xs ys : List CV) : eqV Try.prog (d + 1) 63 (.agg xs) (.agg ys) = eqF Try.prog d xs ys (match Try.prog.underlying 63 with | some (.struct fs) => fs.toList | _ => []) := by rw [Try.underlying63]; exact eqV_struct Try.underlying63 st63 d xs ys
@[go_sem] theorem sz64 : szOf Try.prog 64 = some 2 := by kernel_rfl
@[go_sem] theorem ag64 : aggT Try.prog 64 = true := by kernel_rfl
@[go_sem] theorem by64 : Try.prog.bytesOf 64 = 32 := by kernel_rfl
@[go_sem] theorem un64 : (Try.prog.underlying 64).isNone = false := by kernel_rfl
@[go_sem] theorem zo64 : zerosOf Try.prog 64 = some [.nilS, .int .i64 0] := by kernel_rfl
attribute [go_sem] Try.underlying64
@[go_sem] theorem gd64 : Try.prog.eqGuardType Try.prog.depth 64 = false := by kernel_rfl
@[go_sem] theorem st64 : Try.prog.stoodInHeld 64 = false := by kernel_rfl
@[go_sem] theorem eqs64 (d : Nat) (xs ys : List CV) : eqV Try.prog (d + 1) 64 (.agg xs) (.agg ys) = eqF Try.prog d xs ys (match Try.prog.underlying 64 with | some (.struct fs) => fs.toList | _ => []) := by rw [Try.underlying64]; exact eqV_struct Try.underlying64 st64 d xs ys
@[go_sem] theorem sz66 : szOf Try.prog 66 = some 1 := by kernel_rfl
@[go_sem] theorem ag66 : aggT Try.prog 66 = false := by kernel_rfl
@[go_sem] theorem by66 : Try.prog.bytesOf 66 = 8 := by kernel_rfl
@[go_sem] theorem un66 : (Try.prog.underlying 66).isNone = false := by kernel_rfl
@[go_sem] theorem zo66 : zerosOf Try.prog 66 = some [.nilP] := by kernel_rfl
attribute [go_sem] Try.underlying66
@[go_sem] theorem sz80 : szOf Try.prog 80 = some 2 := by kernel_rfl
@[go_sem] theorem ag80 : aggT Try.prog 80 = true := by kernel_rfl
@[go_sem] theorem by80 : Try.prog.bytesOf 80 = 16 := by kernel_rfl
@[go_sem] theorem un80 : (Try.prog.underlying 80).isNone = false := by kernel_rfl
@[go_sem] theorem zo80 : zerosOf Try.prog 80 = some [.nilP, .nilP] := by kernel_rfl
attribute [go_sem] Try.underlying80
@[go_sem] theorem gd80 : Try.prog.eqGuardType Try.prog.depth 80 = false := by kernel_rfl
@[go_sem] theorem sz81 : szOf Try.prog 81 = some 35 := by kernel_rfl
@[go_sem] theorem ag81 : aggT Try.prog 81 = true := by kernel_rfl
@[go_sem] theorem by81 : Try.prog.bytesOf 81 = 56 := by kernel_rfl
@[go_sem] theorem un81 : (Try.prog.underlying 81).isNone = false := by kernel_rfl
@[go_sem] theorem zo81 : zerosOf Try.prog 81 = some [.bool false, .int .u8 0, .int .u8 0, .int .u8 0, .int .u8 0, .int .u8 0, .int .u8 0, .int .u8 0, .int .u8 0, .int .u8 0, .int .u8 0, .int .u8 0, .int .u8 0, .int .u8 0, .int .u8 0, .int .u8 0, .int .u8 0, .int .u8 0, .int .u8 0, .int .u8 0, .int .u8 0, .int .u8 0, .int .u8 0, .int .u8 0, .int .u8 0, .int .u8 0, .int .u8 0, .int .u8 0, .int .u8 0, .int .u8 0, .int .u8 0, .int .u8 0, .int .u8 0, .nilP, .nilP] := by kernel_rfl
attribute [go_sem] Try.underlying81
@[go_sem] theorem gd81 : Try.prog.eqGuardType Try.prog.depth 81 = false := by kernel_rfl
@[go_sem] theorem st81 : Try.prog.stoodInHeld 81 = false := by kernel_rfl
@[go_sem] theorem eqs81 (d : Nat) (xs ys : List CV) : eqV Try.prog (d + 1) 81 (.agg xs) (.agg ys) = eqF Try.prog d xs ys (match Try.prog.underlying 81 with | some (.struct fs) => fs.toList | _ => []) := by rw [Try.underlying81]; exact eqV_struct Try.underlying81 st81 d xs ys
@[go_sem] theorem sz82 : szOf Try.prog 82 = some 35 := by kernel_rfl
@[go_sem] theorem ag82 : aggT Try.prog 82 = true := by kernel_rfl
@[go_sem] theorem by82 : Try.prog.bytesOf 82 = 56 := by kernel_rfl
@[go_sem] theorem un82 : (Try.prog.underlying 82).isNone = false := by kernel_rfl
@[go_sem] theorem zo82 : zerosOf Try.prog 82 = some [.bool false, .int .u8 0, .int .u8 0, .int .u8 0, .int .u8 0, .int .u8 0, .int .u8 0, .int .u8 0, .int .u8 0, .int .u8 0, .int .u8 0, .int .u8 0, .int .u8 0, .int .u8 0, .int .u8 0, .int .u8 0, .int .u8 0, .int .u8 0, .int .u8 0, .int .u8 0, .int .u8 0, .int .u8 0, .int .u8 0, .int .u8 0, .int .u8 0, .int .u8 0, .int .u8 0, .int .u8 0, .int .u8 0, .int .u8 0, .int .u8 0, .int .u8 0, .int .u8 0, .nilP, .nilP] := by kernel_rfl
attribute [go_sem] Try.underlying82
@[go_sem] theorem gd82 : Try.prog.eqGuardType Try.prog.depth 82 = false := by kernel_rfl
@[go_sem] theorem st82 : Try.prog.stoodInHeld 82 = false := by kernel_rfl
@[go_sem] theorem eqs82 (d : Nat) (xs ys : List CV) : eqV Try.prog (d + 1) 82 (.agg xs) (.agg ys) = eqF Try.prog d xs ys (match Try.prog.underlying 82 with | some (.struct fs) => fs.toList | _ => []) := by rw [Try.underlying82]; exact eqV_struct Try.underlying82 st82 d xs ys
@[go_sem] theorem sz90 : szOf Try.prog 90 = some 4 := by kernel_rfl
@[go_sem] theorem ag90 : aggT Try.prog 90 = true := by kernel_rfl
@[go_sem] theorem by90 : Try.prog.bytesOf 90 = 40 := by kernel_rfl
@[go_sem] theorem un90 : (Try.prog.underlying 90).isNone = false := by kernel_rfl
@[go_sem] theorem zo90 : zerosOf Try.prog 90 = some [.nilP, .nilP, .nilP, .str []] := by kernel_rfl
attribute [go_sem] Try.underlying90
@[go_sem] theorem gd90 : Try.prog.eqGuardType Try.prog.depth 90 = false := by kernel_rfl
@[go_sem] theorem sz91 : szOf Try.prog 91 = some 4 := by kernel_rfl
@[go_sem] theorem ag91 : aggT Try.prog 91 = true := by kernel_rfl
@[go_sem] theorem by91 : Try.prog.bytesOf 91 = 40 := by kernel_rfl
@[go_sem] theorem un91 : (Try.prog.underlying 91).isNone = false := by kernel_rfl
@[go_sem] theorem zo91 : zerosOf Try.prog 91 = some [.nilP, .nilP, .nilP, .str []] := by kernel_rfl
attribute [go_sem] Try.underlying91
@[go_sem] theorem gd91 : Try.prog.eqGuardType Try.prog.depth 91 = false := by kernel_rfl
@[go_sem] theorem sz92 : szOf Try.prog 92 = some 0 := by kernel_rfl
@[go_sem] theorem ag92 : aggT Try.prog 92 = true := by kernel_rfl
@[go_sem] theorem by92 : Try.prog.bytesOf 92 = 0 := by kernel_rfl
@[go_sem] theorem un92 : (Try.prog.underlying 92).isNone = false := by kernel_rfl
@[go_sem] theorem zo92 : zerosOf Try.prog 92 = some [] := by kernel_rfl
attribute [go_sem] Try.underlying92
@[go_sem] theorem gd92 : Try.prog.eqGuardType Try.prog.depth 92 = false := by kernel_rfl
@[go_sem] theorem sz93 : szOf Try.prog 93 = some 0 := by kernel_rfl
@[go_sem] theorem ag93 : aggT Try.prog 93 = true := by kernel_rfl
@[go_sem] theorem by93 : Try.prog.bytesOf 93 = 0 := by kernel_rfl
@[go_sem] theorem un93 : (Try.prog.underlying 93).isNone = false := by kernel_rfl
@[go_sem] theorem zo93 : zerosOf Try.prog 93 = some [] := by kernel_rfl
attribute [go_sem] Try.underlying93
@[go_sem] theorem gd93 : Try.prog.eqGuardType Try.prog.depth 93 = false := by kernel_rfl
@[go_sem] theorem sz94 : szOf Try.prog 94 = some 0 := by kernel_rfl
@[go_sem] theorem ag94 : aggT Try.prog 94 = true := by kernel_rfl
@[go_sem] theorem by94 : Try.prog.bytesOf 94 = 0 := by kernel_rfl
@[go_sem] theorem un94 : (Try.prog.underlying 94).isNone = false := by kernel_rfl
@[go_sem] theorem zo94 : zerosOf Try.prog 94 = some [] := by kernel_rfl
attribute [go_sem] Try.underlying94
@[go_sem] theorem gd94 : Try.prog.eqGuardType Try.prog.depth 94 = false := by kernel_rfl
@[go_sem] theorem sz96 : szOf Try.prog 96 = some 1 := by kernel_rfl
@[go_sem] theorem ag96 : aggT Try.prog 96 = false := by kernel_rfl
@[go_sem] theorem by96 : Try.prog.bytesOf 96 = 4 := by kernel_rfl
@[go_sem] theorem un96 : (Try.prog.underlying 96).isNone = false := by kernel_rfl
@[go_sem] theorem zo96 : zerosOf Try.prog 96 = some [.int .u32 0] := by kernel_rfl
attribute [go_sem] Try.underlying96
@[go_sem] theorem eql96 (d : Nat) (k : IntKind) (a b : Int) : eqV Try.prog (d + 1) 96 (.int k a) (.int k b) = some (a == b) := eqV_int Try.underlying96 d k a b
@[go_sem] theorem sz97 : szOf Try.prog 97 = some 1 := by kernel_rfl
@[go_sem] theorem ag97 : aggT Try.prog 97 = false := by kernel_rfl
@[go_sem] theorem by97 : Try.prog.bytesOf 97 = 1 := by kernel_rfl
@[go_sem] theorem un97 : (Try.prog.underlying 97).isNone = false := by kernel_rfl
@[go_sem] theorem zo97 : zerosOf Try.prog 97 = some [.int .u8 0] := by kernel_rfl
attribute [go_sem] Try.underlying97
@[go_sem] theorem eql97 (d : Nat) (k : IntKind) (a b : Int) : eqV Try.prog (d + 1) 97 (.int k a) (.int k b) = some (a == b) := eqV_int Try.underlying97 d k a b
@[go_sem] theorem sz98 : szOf Try.prog 98 = some 1 := by kernel_rfl
@[go_sem] theorem ag98 : aggT Try.prog 98 = false := by kernel_rfl
@[go_sem] theorem by98 : Try.prog.bytesOf 98 = 1 := by kernel_rfl
@[go_sem] theorem un98 : (Try.prog.underlying 98).isNone = false := by kernel_rfl
@[go_sem] theorem zo98 : zerosOf Try.prog 98 = some [.int .u8 0] := by kernel_rfl
attribute [go_sem] Try.underlying98
@[go_sem] theorem eql98 (d : Nat) (k : IntKind) (a b : Int) : eqV Try.prog (d + 1) 98 (.int k a) (.int k b) = some (a == b) := eqV_int Try.underlying98 d k a b
@[go_sem] theorem sz100 : szOf Try.prog 100 = some 1 := by kernel_rfl
@[go_sem] theorem ag100 : aggT Try.prog 100 = false := by kernel_rfl
@[go_sem] theorem by100 : Try.prog.bytesOf 100 = 8 := by kernel_rfl
@[go_sem] theorem un100 : (Try.prog.underlying 100).isNone = false := by kernel_rfl
@[go_sem] theorem zo100 : zerosOf Try.prog 100 = some [.nilP] := by kernel_rfl
attribute [go_sem] Try.underlying100
@[go_sem] theorem sz101 : szOf Try.prog 101 = some 1 := by kernel_rfl
@[go_sem] theorem ag101 : aggT Try.prog 101 = false := by kernel_rfl
@[go_sem] theorem by101 : Try.prog.bytesOf 101 = 4 := by kernel_rfl
@[go_sem] theorem un101 : (Try.prog.underlying 101).isNone = false := by kernel_rfl
@[go_sem] theorem zo101 : zerosOf Try.prog 101 = some [.int .i32 0] := by kernel_rfl
attribute [go_sem] Try.underlying101
@[go_sem] theorem eql101 (d : Nat) (k : IntKind) (a b : Int) : eqV Try.prog (d + 1) 101 (.int k a) (.int k b) = some (a == b) := eqV_int Try.underlying101 d k a b
@[go_sem] theorem sz102 : szOf Try.prog 102 = some 1 := by kernel_rfl
@[go_sem] theorem ag102 : aggT Try.prog 102 = false := by kernel_rfl
@[go_sem] theorem by102 : Try.prog.bytesOf 102 = 4 := by kernel_rfl
@[go_sem] theorem un102 : (Try.prog.underlying 102).isNone = false := by kernel_rfl
@[go_sem] theorem zo102 : zerosOf Try.prog 102 = some [.int .i32 0] := by kernel_rfl
attribute [go_sem] Try.underlying102
@[go_sem] theorem eql102 (d : Nat) (k : IntKind) (a b : Int) : eqV Try.prog (d + 1) 102 (.int k a) (.int k b) = some (a == b) := eqV_int Try.underlying102 d k a b
@[go_sem] theorem sz103 : szOf Try.prog 103 = some 11 := by kernel_rfl
@[go_sem] theorem ag103 : aggT Try.prog 103 = true := by kernel_rfl
@[go_sem] theorem by103 : Try.prog.bytesOf 103 = 48 := by kernel_rfl
@[go_sem] theorem un103 : (Try.prog.underlying 103).isNone = false := by kernel_rfl
@[go_sem] theorem zo103 : zerosOf Try.prog 103 = some [.int .u64 0, .int .u64 0, .int .u32 0, .int .u8 0, .int .u8 0, .int .u8 0, .int .u8 0, .nilF, .nilP, .int .i32 0, .int .i32 0] := by kernel_rfl
attribute [go_sem] Try.underlying103
@[go_sem] theorem gd103 : Try.prog.eqGuardType Try.prog.depth 103 = false := by kernel_rfl
@[go_sem] theorem sz104 : szOf Try.prog 104 = some 11 := by kernel_rfl
@[go_sem] theorem ag104 : aggT Try.prog 104 = true := by kernel_rfl
@[go_sem] theorem by104 : Try.prog.bytesOf 104 = 48 := by kernel_rfl
@[go_sem] theorem un104 : (Try.prog.underlying 104).isNone = false := by kernel_rfl
@[go_sem] theorem zo104 : zerosOf Try.prog 104 = some [.int .u64 0, .int .u64 0, .int .u32 0, .int .u8 0, .int .u8 0, .int .u8 0, .int .u8 0, .nilF, .nilP, .int .i32 0, .int .i32 0] := by kernel_rfl
attribute [go_sem] Try.underlying104
@[go_sem] theorem gd104 : Try.prog.eqGuardType Try.prog.depth 104 = false := by kernel_rfl
@[go_sem] theorem sz105 : szOf Try.prog 105 = some 1 := by kernel_rfl
@[go_sem] theorem ag105 : aggT Try.prog 105 = false := by kernel_rfl
@[go_sem] theorem by105 : Try.prog.bytesOf 105 = 8 := by kernel_rfl
@[go_sem] theorem un105 : (Try.prog.underlying 105).isNone = false := by kernel_rfl
@[go_sem] theorem zo105 : zerosOf Try.prog 105 = some [.nilP] := by kernel_rfl
attribute [go_sem] Try.underlying105
-- 0 main.main
-- 1 gosem.cut
-- 2 gosem.cut.init
theorem ca2 : callable Try.prog 2 = true := by kernel_rfl
-- 3 burrow/burrowlaw14.RoutesLookup
theorem ca3 : callable Try.prog 3 = true := by kernel_rfl
-- 4 burrow/burrowlaw14.RoutesLongest
theorem ca4 : callable Try.prog 4 = true := by kernel_rfl
-- 5 burrow/burrowlaw14.RoutesLimits
theorem ca5 : callable Try.prog 5 = true := by kernel_rfl
-- 6 burrow/burrowlaw14.RoutesOrders
theorem ca6 : callable Try.prog 6 = true := by kernel_rfl
-- 7 burrow/burrowlaw14.RoutesChange
theorem ca7 : callable Try.prog 7 = true := by kernel_rfl
-- 8 burrow/burrowlaw14.RoutesRemoves
theorem ca8 : callable Try.prog 8 = true := by kernel_rfl
-- 9 burrow/burrowlaw14.made
theorem ca9 : callable Try.prog 9 = true := by kernel_rfl
-- 10 burrow/burrowcase.New
theorem ca10 : callable Try.prog 10 = true := by kernel_rfl
-- 11 (*burrow/burrowcase.Codes).Addr
theorem ca11 : callable Try.prog 11 = true := by kernel_rfl
-- 12 burrow/routes.Lookup
theorem ca12 : callable Try.prog 12 = true := by kernel_rfl
-- 13 burrow/burrowref14.Lookup
theorem ca13 : callable Try.prog 13 = true := by kernel_rfl
-- 14 burrow/burrowlaw14.begun
theorem ca14 : callable Try.prog 14 = true := by kernel_rfl
-- 15 burrow/burrowref09.Contains
theorem ca15 : callable Try.prog 15 = true := by kernel_rfl
-- 16 burrow/routes.Insert
theorem ca16 : callable Try.prog 16 = true := by kernel_rfl
-- 17 burrow/burrowcase.Masked
theorem ca17 : callable Try.prog 17 = true := by kernel_rfl
-- 18 burrow/burrowcase.Host
theorem ca18 : callable Try.prog 18 = true := by kernel_rfl
-- 19 (*burrow/burrowcase.Codes).Prefixes
theorem ca19 : callable Try.prog 19 = true := by kernel_rfl
-- 20 burrow/routes.Valid
theorem ca20 : callable Try.prog 20 = true := by kernel_rfl
-- 21 burrow/burrowlaw14.same
theorem ca21 : callable Try.prog 21 = true := by kernel_rfl
-- 22 (*burrow/burrowcase.Codes).Prefix
theorem ca22 : callable Try.prog 22 = true := by kernel_rfl
-- 23 burrow/burrowref14.InsertRoute
theorem ca23 : callable Try.prog 23 = true := by kernel_rfl
-- 24 burrow/routes.Remove
theorem ca24 : callable Try.prog 24 = true := by kernel_rfl
-- 25 burrow/burrowref14.RemoveRoute
theorem ca25 : callable Try.prog 25 = true := by kernel_rfl
-- 26 burrow/routes.RemovePeer
theorem ca26 : callable Try.prog 26 = true := by kernel_rfl
-- 27 burrow/burrowref14.RemovePeer
theorem ca27 : callable Try.prog 27 = true := by kernel_rfl
-- 28 burrow/burrowlaw14.prefixes
theorem ca28 : callable Try.prog 28 = true := by kernel_rfl
-- 29 burrow/routes.Of
theorem ca29 : callable Try.prog 29 = true := by kernel_rfl
-- 30 burrow/burrowref14.RoutesOf
theorem ca30 : callable Try.prog 30 = true := by kernel_rfl
-- 31 burrow/burrowref14.ValidRoutes
theorem ca31 : callable Try.prog 31 = true := by kernel_rfl
-- 32 (*burrow/burrowcase.Codes).Next
theorem ca32 : callable Try.prog 32 = true := by kernel_rfl
-- 33 (*burrow/burrowcase.Codes).Bytes
theorem ca33 : callable Try.prog 33 = true := by kernel_rfl
-- 34 burrow/inner.Contains
theorem ca34 : callable Try.prog 34 = true := by kernel_rfl
-- 35 burrow/routes.trie
theorem ca35 : callable Try.prog 35 = true := by kernel_rfl
-- 36 (*burrow/routes.node).find
theorem ca36 : callable Try.prog 36 = true := by kernel_rfl
-- 37 burrow/burrowref09.Valid
theorem ca37 : callable Try.prog 37 = true := by kernel_rfl
-- 38 burrow/burrowref09.Sound
theorem ca38 : callable Try.prog 38 = true := by kernel_rfl
-- 39 burrow/burrowref09.bit
theorem ca39 : callable Try.prog 39 = true := by kernel_rfl
-- 40 burrow/inner.Valid
theorem ca40 : callable Try.prog 40 = true := by kernel_rfl
-- 41 slices.Clone[[]burrow/api.Route,burrow/api.Route]
theorem ca41 : callable Try.prog 41 = true := by kernel_rfl
-- 42 slices.IndexFunc[[]burrow/api.Route,burrow/api.Route]
theorem ca42 : callable Try.prog 42 = true := by kernel_rfl
-- 43 burrow/routes.Insert$1
theorem ca43 : callable Try.prog 43 = true := by kernel_rfl
-- 44 burrow/routes.Insert$2
theorem ca44 : callable Try.prog 44 = true := by kernel_rfl
-- 45 burrow/routes.less
theorem ca45 : callable Try.prog 45 = true := by kernel_rfl
-- 46 slices.Insert[[]burrow/api.Route,burrow/api.Route]
theorem ca46 : callable Try.prog 46 = true := by kernel_rfl
-- 47 burrow/burrowref14.before
theorem ca47 : callable Try.prog 47 = true := by kernel_rfl
-- 48 slices.DeleteFunc[[]burrow/api.Route,burrow/api.Route]
theorem ca48 : callable Try.prog 48 = true := by kernel_rfl
-- 49 burrow/routes.Remove$1
theorem ca49 : callable Try.prog 49 = true := by kernel_rfl
-- 50 burrow/routes.RemovePeer$1
theorem ca50 : callable Try.prog 50 = true := by kernel_rfl
-- 51 (*burrow/burrowcase.Codes).Left
theorem ca51 : callable Try.prog 51 = true := by kernel_rfl
-- 52 burrow/inner.valid
theorem ca52 : callable Try.prog 52 = true := by kernel_rfl
-- 53 burrow/inner.cut
theorem ca53 : callable Try.prog 53 = true := by kernel_rfl
-- 54 (*burrow/routes.node).put
theorem ca54 : callable Try.prog 54 = true := by kernel_rfl
-- 55 burrow/routes.bit
theorem ca55 : callable Try.prog 55 = true := by kernel_rfl
-- 56 burrow/burrowref09.width
theorem ca56 : callable Try.prog 56 = true := by kernel_rfl
-- 57 burrow/inner.Less
theorem ca57 : callable Try.prog 57 = true := by kernel_rfl
-- 58 slices.overlaps[burrow/api.Route]
-- 59 slices.rotateRight[burrow/api.Route]
theorem ca59 : callable Try.prog 59 = true := by kernel_rfl
-- 60 burrow/burrowref09.Less
theorem ca60 : callable Try.prog 60 = true := by kernel_rfl
-- 61 bytes.Compare
theorem ca61 : callable Try.prog 61 = true := by kernel_rfl
-- 62 slices.rotateLeft[burrow/api.Route]
theorem ca62 : callable Try.prog 62 = true := by kernel_rfl
-- 63 internal/bytealg.Compare
-- 64 slices.Reverse[[]burrow/api.Route,burrow/api.Route]
theorem ca64 : callable Try.prog 64 = true := by kernel_rfl
-- 65 (runtime.boundsError).Error
-- 66 (runtime.boundsError).RuntimeError
-- 67 (runtime.errorString).Error
-- 68 (runtime.errorString).RuntimeError
-- 69 (runtime.plainError).Error
-- 70 (runtime.plainError).RuntimeError
-- 71 (runtime.errorAddressString).Error
-- 72 (runtime.errorAddressString).RuntimeError
-- 73 (*runtime.TypeAssertionError).Error
-- 74 (*runtime.TypeAssertionError).RuntimeError
-- 75 (*runtime.PanicNilError).Error
-- 76 (*runtime.PanicNilError).RuntimeError
-- 77 (*internal/abi.Type).Align
-- 78 (internal/runtime/maps.unhashableTypeError).Error
-- 79 (internal/runtime/maps.unhashableTypeError).RuntimeError
-- 80 (*burrow/burrowcase.Codes).Bool
-- 81 (internal/abi.Kind).String

end Go.Proofs.Ytmcnajknmoldpaa
