/- Closed facts of the seat program for the canonical machine: printed by facts.py. -/
import Derived.Test.YtjlfblcoghiijaaSyX
import Derived.Test.YtjlfblcoghiijaaRows
import Derived.KernelRfl
namespace Go.Proofs.Ytjlfblcoghiijaa
open Go Go.Sy

theorem mixed : Try.prog.follows .mixedOrders = true := by kernel_rfl
@[go_sem] theorem sz2 : szOf Try.prog 2 = some 1 := by kernel_rfl
@[go_sem] theorem ag2 : aggT Try.prog 2 = false := by kernel_rfl
@[go_sem] theorem by2 : Try.prog.bytesOf 2 = 8 := by kernel_rfl
@[go_sem] theorem un2 : (Try.prog.underlying 2).isNone = false := by kernel_rfl
@[go_sem] theorem zo2 : zerosOf Try.prog 2 = some [.int .i64 0] := by kernel_rfl
attribute [go_sem] Try.underlying2
@[go_sem] theorem eql2 (d : Nat) (k : IntKind) (a b : Int) : eqV Try.prog (d + 1) 2 (.int k a) (.int k b) = some (a == b) := eqV_int Try.underlying2 d k a b
@[go_sem] theorem sz3 : szOf Try.prog 3 = some 1 := by kernel_rfl
@[go_sem] theorem ag3 : aggT Try.prog 3 = false := by kernel_rfl
@[go_sem] theorem by3 : Try.prog.bytesOf 3 = 8 := by kernel_rfl
@[go_sem] theorem un3 : (Try.prog.underlying 3).isNone = false := by kernel_rfl
@[go_sem] theorem zo3 : zerosOf Try.prog 3 = some [.int .i64 0] := by kernel_rfl
attribute [go_sem] Try.underlying3
@[go_sem] theorem eql3 (d : Nat) (k : IntKind) (a b : Int) : eqV Try.prog (d + 1) 3 (.int k a) (.int k b) = some (a == b) := eqV_int Try.underlying3 d k a b
@[go_sem] theorem sz4 : szOf Try.prog 4 = some 1 := by kernel_rfl
@[go_sem] theorem ag4 : aggT Try.prog 4 = false := by kernel_rfl
@[go_sem] theorem by4 : Try.prog.bytesOf 4 = 1 := by kernel_rfl
@[go_sem] theorem un4 : (Try.prog.underlying 4).isNone = false := by kernel_rfl
@[go_sem] theorem zo4 : zerosOf Try.prog 4 = some [.bool false] := by kernel_rfl
attribute [go_sem] Try.underlying4
@[go_sem] theorem eql4 (d : Nat) (a b : Bool) : eqV Try.prog (d + 1) 4 (.bool a) (.bool b) = some (a == b) := eqV_bool Try.underlying4 d a b
@[go_sem] theorem sz5 : szOf Try.prog 5 = some 1 := by kernel_rfl
@[go_sem] theorem ag5 : aggT Try.prog 5 = false := by kernel_rfl
@[go_sem] theorem by5 : Try.prog.bytesOf 5 = 1 := by kernel_rfl
@[go_sem] theorem un5 : (Try.prog.underlying 5).isNone = false := by kernel_rfl
@[go_sem] theorem zo5 : zerosOf Try.prog 5 = some [.int .u8 0] := by kernel_rfl
attribute [go_sem] Try.underlying5
@[go_sem] theorem eql5 (d : Nat) (k : IntKind) (a b : Int) : eqV Try.prog (d + 1) 5 (.int k a) (.int k b) = some (a == b) := eqV_int Try.underlying5 d k a b
@[go_sem] theorem sz6 : szOf Try.prog 6 = some 1 := by kernel_rfl
@[go_sem] theorem ag6 : aggT Try.prog 6 = false := by kernel_rfl
@[go_sem] theorem by6 : Try.prog.bytesOf 6 = 1 := by kernel_rfl
@[go_sem] theorem un6 : (Try.prog.underlying 6).isNone = false := by kernel_rfl
@[go_sem] theorem zo6 : zerosOf Try.prog 6 = some [.int .u8 0] := by kernel_rfl
attribute [go_sem] Try.underlying6
@[go_sem] theorem eql6 (d : Nat) (k : IntKind) (a b : Int) : eqV Try.prog (d + 1) 6 (.int k a) (.int k b) = some (a == b) := eqV_int Try.underlying6 d k a b
@[go_sem] theorem sz7 : szOf Try.prog 7 = some 4 := by kernel_rfl
@[go_sem] theorem ag7 : aggT Try.prog 7 = true := by kernel_rfl
@[go_sem] theorem by7 : Try.prog.bytesOf 7 = 24 := by kernel_rfl
@[go_sem] theorem un7 : (Try.prog.underlying 7).isNone = false := by kernel_rfl
@[go_sem] theorem zo7 : zerosOf Try.prog 7 = some [.int .i64 0, .int .i64 0, .bool false, .int .u8 0] := by kernel_rfl
attribute [go_sem] Try.underlying7
@[go_sem] theorem gd7 : Try.prog.eqGuardType Try.prog.depth 7 = false := by kernel_rfl
@[go_sem] theorem st7 : Try.prog.stoodInHeld 7 = false := by kernel_rfl
@[go_sem] theorem eqs7 (d : Nat) (xs ys : List CV) : eqV Try.prog (d + 1) 7 (.agg xs) (.agg ys) = eqF Try.prog d xs ys (match Try.prog.underlying 7 with | some (.struct fs) => fs.toList | _ => []) := by rw [Try.underlying7]; exact eqV_struct Try.underlying7 st7 d xs ys
@[go_sem] theorem sz8 : szOf Try.prog 8 = some 4 := by kernel_rfl
@[go_sem] theorem ag8 : aggT Try.prog 8 = true := by kernel_rfl
@[go_sem] theorem by8 : Try.prog.bytesOf 8 = 24 := by kernel_rfl
@[go_sem] theorem un8 : (Try.prog.underlying 8).isNone = false := by kernel_rfl
@[go_sem] theorem zo8 : zerosOf Try.prog 8 = some [.int .i64 0, .int .i64 0, .bool false, .int .u8 0] := by kernel_rfl
attribute [go_sem] Try.underlying8
@[go_sem] theorem gd8 : Try.prog.eqGuardType Try.prog.depth 8 = false := by kernel_rfl
@[go_sem] theorem st8 : Try.prog.stoodInHeld 8 = false := by kernel_rfl
@[go_sem] theorem eqs8 (d : Nat) (xs ys : List CV) : eqV Try.prog (d + 1) 8 (.agg xs) (.agg ys) = eqF Try.prog d xs ys (match Try.prog.underlying 8 with | some (.struct fs) => fs.toList | _ => []) := by rw [Try.underlying8]; exact eqV_struct Try.underlying8 st8 d xs ys
@[go_sem] theorem sz9 : szOf Try.prog 9 = some 1 := by kernel_rfl
@[go_sem] theorem ag9 : aggT Try.prog 9 = false := by kernel_rfl
@[go_sem] theorem by9 : Try.prog.bytesOf 9 = 16 := by kernel_rfl
@[go_sem] theorem un9 : (Try.prog.underlying 9).isNone = false := by kernel_rfl
@[go_sem] theorem zo9 : zerosOf Try.prog 9 = some [.str []] := by kernel_rfl
attribute [go_sem] Try.underlying9
@[go_sem] theorem eql9 (d : Nat) (a b : List UInt8) : eqV Try.prog (d + 1) 9 (.str a) (.str b) = some (a == b) := eqV_str Try.underlying9 d a b
@[go_sem] theorem sz10 : szOf Try.prog 10 = some 1 := by kernel_rfl
@[go_sem] theorem ag10 : aggT Try.prog 10 = false := by kernel_rfl
@[go_sem] theorem by10 : Try.prog.bytesOf 10 = 16 := by kernel_rfl
@[go_sem] theorem un10 : (Try.prog.underlying 10).isNone = false := by kernel_rfl
@[go_sem] theorem zo10 : zerosOf Try.prog 10 = some [.str []] := by kernel_rfl
attribute [go_sem] Try.underlying10
@[go_sem] theorem eql10 (d : Nat) (a b : List UInt8) : eqV Try.prog (d + 1) 10 (.str a) (.str b) = some (a == b) := eqV_str Try.underlying10 d a b
@[go_sem] theorem sz11 : szOf Try.prog 11 = some 1 := by kernel_rfl
@[go_sem] theorem ag11 : aggT Try.prog 11 = false := by kernel_rfl
@[go_sem] theorem by11 : Try.prog.bytesOf 11 = 16 := by kernel_rfl
@[go_sem] theorem un11 : (Try.prog.underlying 11).isNone = false := by kernel_rfl
@[go_sem] theorem zo11 : zerosOf Try.prog 11 = some [.str []] := by kernel_rfl
attribute [go_sem] Try.underlying11
@[go_sem] theorem eql11 (d : Nat) (a b : List UInt8) : eqV Try.prog (d + 1) 11 (.str a) (.str b) = some (a == b) := eqV_str Try.underlying11 d a b
@[go_sem] theorem sz12 : szOf Try.prog 12 = some 1 := by kernel_rfl
@[go_sem] theorem ag12 : aggT Try.prog 12 = false := by kernel_rfl
@[go_sem] theorem by12 : Try.prog.bytesOf 12 = 8 := by kernel_rfl
@[go_sem] theorem un12 : (Try.prog.underlying 12).isNone = false := by kernel_rfl
@[go_sem] theorem zo12 : zerosOf Try.prog 12 = some [.int .u64 0] := by kernel_rfl
attribute [go_sem] Try.underlying12
@[go_sem] theorem eql12 (d : Nat) (k : IntKind) (a b : Int) : eqV Try.prog (d + 1) 12 (.int k a) (.int k b) = some (a == b) := eqV_int Try.underlying12 d k a b
@[go_sem] theorem sz13 : szOf Try.prog 13 = some 2 := by kernel_rfl
@[go_sem] theorem ag13 : aggT Try.prog 13 = true := by kernel_rfl
@[go_sem] theorem by13 : Try.prog.bytesOf 13 = 24 := by kernel_rfl
@[go_sem] theorem un13 : (Try.prog.underlying 13).isNone = false := by kernel_rfl
@[go_sem] theorem zo13 : zerosOf Try.prog 13 = some [.str [], .int .u64 0] := by kernel_rfl
attribute [go_sem] Try.underlying13
@[go_sem] theorem gd13 : Try.prog.eqGuardType Try.prog.depth 13 = false := by kernel_rfl
@[go_sem] theorem sz14 : szOf Try.prog 14 = some 2 := by kernel_rfl
@[go_sem] theorem ag14 : aggT Try.prog 14 = true := by kernel_rfl
@[go_sem] theorem by14 : Try.prog.bytesOf 14 = 24 := by kernel_rfl
@[go_sem] theorem un14 : (Try.prog.underlying 14).isNone = false := by kernel_rfl
@[go_sem] theorem zo14 : zerosOf Try.prog 14 = some [.str [], .int .u64 0] := by kernel_rfl
attribute [go_sem] Try.underlying14
@[go_sem] theorem gd14 : Try.prog.eqGuardType Try.prog.depth 14 = false := by kernel_rfl
@[go_sem] theorem sz15 : szOf Try.prog 15 = some 1 := by kernel_rfl
@[go_sem] theorem ag15 : aggT Try.prog 15 = false := by kernel_rfl
@[go_sem] theorem by15 : Try.prog.bytesOf 15 = 8 := by kernel_rfl
@[go_sem] theorem un15 : (Try.prog.underlying 15).isNone = false := by kernel_rfl
@[go_sem] theorem zo15 : zerosOf Try.prog 15 = some [.nilP] := by kernel_rfl
attribute [go_sem] Try.underlying15
@[go_sem] theorem sz16 : szOf Try.prog 16 = some 1 := by kernel_rfl
@[go_sem] theorem ag16 : aggT Try.prog 16 = false := by kernel_rfl
@[go_sem] theorem by16 : Try.prog.bytesOf 16 = 8 := by kernel_rfl
@[go_sem] theorem un16 : (Try.prog.underlying 16).isNone = false := by kernel_rfl
@[go_sem] theorem zo16 : zerosOf Try.prog 16 = some [.nilP] := by kernel_rfl
attribute [go_sem] Try.underlying16
@[go_sem] theorem sz17 : szOf Try.prog 17 = some 1 := by kernel_rfl
@[go_sem] theorem ag17 : aggT Try.prog 17 = false := by kernel_rfl
@[go_sem] theorem by17 : Try.prog.bytesOf 17 = 8 := by kernel_rfl
@[go_sem] theorem un17 : (Try.prog.underlying 17).isNone = false := by kernel_rfl
@[go_sem] theorem zo17 : zerosOf Try.prog 17 = some [.nilP] := by kernel_rfl
attribute [go_sem] Try.underlying17
@[go_sem] theorem sz18 : szOf Try.prog 18 = some 1 := by kernel_rfl
@[go_sem] theorem ag18 : aggT Try.prog 18 = true := by kernel_rfl
@[go_sem] theorem by18 : Try.prog.bytesOf 18 = 8 := by kernel_rfl
@[go_sem] theorem un18 : (Try.prog.underlying 18).isNone = false := by kernel_rfl
@[go_sem] theorem zo18 : zerosOf Try.prog 18 = some [.nilP] := by kernel_rfl
attribute [go_sem] Try.underlying18
@[go_sem] theorem gd18 : Try.prog.eqGuardType Try.prog.depth 18 = false := by kernel_rfl
@[go_sem] theorem sz19 : szOf Try.prog 19 = some 1 := by kernel_rfl
@[go_sem] theorem ag19 : aggT Try.prog 19 = true := by kernel_rfl
@[go_sem] theorem by19 : Try.prog.bytesOf 19 = 8 := by kernel_rfl
@[go_sem] theorem un19 : (Try.prog.underlying 19).isNone = false := by kernel_rfl
@[go_sem] theorem zo19 : zerosOf Try.prog 19 = some [.nilP] := by kernel_rfl
attribute [go_sem] Try.underlying19
@[go_sem] theorem gd19 : Try.prog.eqGuardType Try.prog.depth 19 = false := by kernel_rfl
@[go_sem] theorem sz21 : szOf Try.prog 21 = some 1 := by kernel_rfl
@[go_sem] theorem ag21 : aggT Try.prog 21 = false := by kernel_rfl
@[go_sem] theorem by21 : Try.prog.bytesOf 21 = 4 := by kernel_rfl
@[go_sem] theorem un21 : (Try.prog.underlying 21).isNone = false := by kernel_rfl
@[go_sem] theorem zo21 : zerosOf Try.prog 21 = some [.int .i32 0] := by kernel_rfl
attribute [go_sem] Try.underlying21
@[go_sem] theorem eql21 (d : Nat) (k : IntKind) (a b : Int) : eqV Try.prog (d + 1) 21 (.int k a) (.int k b) = some (a == b) := eqV_int Try.underlying21 d k a b
@[go_sem] theorem sz22 : szOf Try.prog 22 = some 1 := by kernel_rfl
@[go_sem] theorem ag22 : aggT Try.prog 22 = false := by kernel_rfl
@[go_sem] theorem by22 : Try.prog.bytesOf 22 = 24 := by kernel_rfl
@[go_sem] theorem un22 : (Try.prog.underlying 22).isNone = false := by kernel_rfl
@[go_sem] theorem zo22 : zerosOf Try.prog 22 = some [.nilS] := by kernel_rfl
attribute [go_sem] Try.underlying22
@[go_sem] theorem el22 : elemT Try.prog 22 = some 5 := by kernel_rfl
@[go_sem] theorem ap22 (B : List Box) (s x : CV) : appendC Try.prog 22 B s x = appendK Try.prog 5 1 B s x := appendC_eq (by kernel_rfl) (by kernel_rfl) (by kernel_rfl) B s x
@[go_sem] theorem sz23 : szOf Try.prog 23 = some 1 := by kernel_rfl
@[go_sem] theorem ag23 : aggT Try.prog 23 = false := by kernel_rfl
@[go_sem] theorem by23 : Try.prog.bytesOf 23 = 2 := by kernel_rfl
@[go_sem] theorem un23 : (Try.prog.underlying 23).isNone = false := by kernel_rfl
@[go_sem] theorem zo23 : zerosOf Try.prog 23 = some [.int .u16 0] := by kernel_rfl
attribute [go_sem] Try.underlying23
@[go_sem] theorem eql23 (d : Nat) (k : IntKind) (a b : Int) : eqV Try.prog (d + 1) 23 (.int k a) (.int k b) = some (a == b) := eqV_int Try.underlying23 d k a b
@[go_sem] theorem sz24 : szOf Try.prog 24 = some 2 := by kernel_rfl
@[go_sem] theorem ag24 : aggT Try.prog 24 = true := by kernel_rfl
@[go_sem] theorem by24 : Try.prog.bytesOf 24 = 32 := by kernel_rfl
@[go_sem] theorem un24 : (Try.prog.underlying 24).isNone = false := by kernel_rfl
@[go_sem] theorem zo24 : zerosOf Try.prog 24 = some [.nilS, .bool false] := by kernel_rfl
attribute [go_sem] Try.underlying24
@[go_sem] theorem gd24 : Try.prog.eqGuardType Try.prog.depth 24 = false := by kernel_rfl
@[go_sem] theorem st24 : Try.prog.stoodInHeld 24 = false := by kernel_rfl
@[go_sem] theorem eqs24 (d : Nat) (xs ys : List CV) : eqV Try.prog (d + 1) 24 (.agg xs) (.agg ys) = eqF Try.prog d xs ys (match Try.prog.underlying 24 with | some (.struct fs) => fs.toList | _ => []) := by rw [Try.underlying24]; exact eqV_struct Try.underlying24 st24 d xs ys
@[go_sem] theorem sz25 : szOf Try.prog 25 = some 2 := by kernel_rfl
@[go_sem] theorem ag25 : aggT Try.prog 25 = true := by kernel_rfl
@[go_sem] theorem by25 : Try.prog.bytesOf 25 = 32 := by kernel_rfl
@[go_sem] theorem un25 : (Try.prog.underlying 25).isNone = false := by kernel_rfl
@[go_sem] theorem zo25 : zerosOf Try.prog 25 = some [.nilS, .bool false] := by kernel_rfl
attribute [go_sem] Try.underlying25
@[go_sem] theorem gd25 : Try.prog.eqGuardType Try.prog.depth 25 = false := by kernel_rfl
@[go_sem] theorem st25 : Try.prog.stoodInHeld 25 = false := by kernel_rfl
@[go_sem] theorem eqs25 (d : Nat) (xs ys : List CV) : eqV Try.prog (d + 1) 25 (.agg xs) (.agg ys) = eqF Try.prog d xs ys (match Try.prog.underlying 25 with | some (.struct fs) => fs.toList | _ => []) := by rw [Try.underlying25]; exact eqV_struct Try.underlying25 st25 d xs ys
@[go_sem] theorem sz26 : szOf Try.prog 26 = some 1 := by kernel_rfl
@[go_sem] theorem ag26 : aggT Try.prog 26 = false := by kernel_rfl
@[go_sem] theorem by26 : Try.prog.bytesOf 26 = 24 := by kernel_rfl
@[go_sem] theorem un26 : (Try.prog.underlying 26).isNone = false := by kernel_rfl
@[go_sem] theorem zo26 : zerosOf Try.prog 26 = some [.nilS] := by kernel_rfl
attribute [go_sem] Try.underlying26
@[go_sem] theorem el26 : elemT Try.prog 26 = some 39 := by kernel_rfl
@[go_sem] theorem ap26 (B : List Box) (s x : CV) : appendC Try.prog 26 B s x = appendK Try.prog 39 2 B s x := appendC_eq (by kernel_rfl) (by kernel_rfl) (by kernel_rfl) B s x
@[go_sem] theorem sz30 : szOf Try.prog 30 = some 1 := by kernel_rfl
@[go_sem] theorem ag30 : aggT Try.prog 30 = false := by kernel_rfl
@[go_sem] theorem by30 : Try.prog.bytesOf 30 = 24 := by kernel_rfl
@[go_sem] theorem un30 : (Try.prog.underlying 30).isNone = false := by kernel_rfl
@[go_sem] theorem zo30 : zerosOf Try.prog 30 = some [.nilS] := by kernel_rfl
attribute [go_sem] Try.underlying30
@[go_sem] theorem el30 : elemT Try.prog 30 = some 22 := by kernel_rfl
@[go_sem] theorem ap30 (B : List Box) (s x : CV) : appendC Try.prog 30 B s x = appendK Try.prog 22 1 B s x := appendC_eq (by kernel_rfl) (by kernel_rfl) (by kernel_rfl) B s x
@[go_sem] theorem sz31 : szOf Try.prog 31 = some 1 := by kernel_rfl
@[go_sem] theorem ag31 : aggT Try.prog 31 = false := by kernel_rfl
@[go_sem] theorem by31 : Try.prog.bytesOf 31 = 24 := by kernel_rfl
@[go_sem] theorem un31 : (Try.prog.underlying 31).isNone = false := by kernel_rfl
@[go_sem] theorem zo31 : zerosOf Try.prog 31 = some [.nilS] := by kernel_rfl
attribute [go_sem] Try.underlying31
@[go_sem] theorem el31 : elemT Try.prog 31 = some 25 := by kernel_rfl
@[go_sem] theorem ap31 (B : List Box) (s x : CV) : appendC Try.prog 31 B s x = appendK Try.prog 25 2 B s x := appendC_eq (by kernel_rfl) (by kernel_rfl) (by kernel_rfl) B s x
@[go_sem] theorem sz38 : szOf Try.prog 38 = some 2 := by kernel_rfl
@[go_sem] theorem ag38 : aggT Try.prog 38 = true := by kernel_rfl
@[go_sem] theorem by38 : Try.prog.bytesOf 38 = 32 := by kernel_rfl
@[go_sem] theorem un38 : (Try.prog.underlying 38).isNone = false := by kernel_rfl
@[go_sem] theorem zo38 : zerosOf Try.prog 38 = some [.int .i64 0, .nilS] := by kernel_rfl
attribute [go_sem] Try.underlying38
@[go_sem] theorem gd38 : Try.prog.eqGuardType Try.prog.depth 38 = false := by kernel_rfl
@[go_sem] theorem st38 : Try.prog.stoodInHeld 38 = false := by kernel_rfl
@[go_sem] theorem eqs38 (d : Nat) (xs ys : List CV) : eqV Try.prog (d + 1) 38 (.agg xs) (.agg ys) = eqF Try.prog d xs ys (match Try.prog.underlying 38 with | some (.struct fs) => fs.toList | _ => []) := by rw [Try.underlying38]; exact eqV_struct Try.underlying38 st38 d xs ys
@[go_sem] theorem sz39 : szOf Try.prog 39 = some 2 := by kernel_rfl
@[go_sem] theorem ag39 : aggT Try.prog 39 = true := by kernel_rfl
@[go_sem] theorem by39 : Try.prog.bytesOf 39 = 32 := by kernel_rfl
@[go_sem] theorem un39 : (Try.prog.underlying 39).isNone = false := by kernel_rfl
@[go_sem] theorem zo39 : zerosOf Try.prog 39 = some [.int .i64 0, .nilS] := by kernel_rfl
attribute [go_sem] Try.underlying39
@[go_sem] theorem gd39 : Try.prog.eqGuardType Try.prog.depth 39 = false := by kernel_rfl
@[go_sem] theorem st39 : Try.prog.stoodInHeld 39 = false := by kernel_rfl
@[go_sem] theorem eqs39 (d : Nat) (xs ys : List CV) : eqV Try.prog (d + 1) 39 (.agg xs) (.agg ys) = eqF Try.prog d xs ys (match Try.prog.underlying 39 with | some (.struct fs) => fs.toList | _ => []) := by rw [Try.underlying39]; exact eqV_struct Try.underlying39 st39 d xs ys
@[go_sem] theorem sz40 : szOf Try.prog 40 = some 1 := by kernel_rfl
@[go_sem] theorem ag40 : aggT Try.prog 40 = false := by kernel_rfl
@[go_sem] theorem by40 : Try.prog.bytesOf 40 = 8 := by kernel_rfl
@[go_sem] theorem un40 : (Try.prog.underlying 40).isNone = false := by kernel_rfl
@[go_sem] theorem zo40 : zerosOf Try.prog 40 = some [.int .i64 0] := by kernel_rfl
attribute [go_sem] Try.underlying40
@[go_sem] theorem eql40 (d : Nat) (k : IntKind) (a b : Int) : eqV Try.prog (d + 1) 40 (.int k a) (.int k b) = some (a == b) := eqV_int Try.underlying40 d k a b
@[go_sem] theorem sz45 : szOf Try.prog 45 = some 1 := by kernel_rfl
@[go_sem] theorem ag45 : aggT Try.prog 45 = false := by kernel_rfl
@[go_sem] theorem by45 : Try.prog.bytesOf 45 = 24 := by kernel_rfl
@[go_sem] theorem un45 : (Try.prog.underlying 45).isNone = false := by kernel_rfl
@[go_sem] theorem zo45 : zerosOf Try.prog 45 = some [.nilS] := by kernel_rfl
attribute [go_sem] Try.underlying45
@[go_sem] theorem el45 : elemT Try.prog 45 = some 3 := by kernel_rfl
@[go_sem] theorem ap45 (B : List Box) (s x : CV) : appendC Try.prog 45 B s x = appendK Try.prog 3 1 B s x := appendC_eq (by kernel_rfl) (by kernel_rfl) (by kernel_rfl) B s x
@[go_sem] theorem sz48 : szOf Try.prog 48 = some 1 := by kernel_rfl
@[go_sem] theorem ag48 : aggT Try.prog 48 = false := by kernel_rfl
@[go_sem] theorem by48 : Try.prog.bytesOf 48 = 4 := by kernel_rfl
@[go_sem] theorem un48 : (Try.prog.underlying 48).isNone = false := by kernel_rfl
@[go_sem] theorem zo48 : zerosOf Try.prog 48 = some [.int .u32 0] := by kernel_rfl
attribute [go_sem] Try.underlying48
@[go_sem] theorem eql48 (d : Nat) (k : IntKind) (a b : Int) : eqV Try.prog (d + 1) 48 (.int k a) (.int k b) = some (a == b) := eqV_int Try.underlying48 d k a b
@[go_sem] theorem sz53 : szOf Try.prog 53 = some 1 := by kernel_rfl
@[go_sem] theorem ag53 : aggT Try.prog 53 = false := by kernel_rfl
@[go_sem] theorem by53 : Try.prog.bytesOf 53 = 8 := by kernel_rfl
@[go_sem] theorem un53 : (Try.prog.underlying 53).isNone = false := by kernel_rfl
@[go_sem] theorem zo53 : zerosOf Try.prog 53 = some [.nilP] := by kernel_rfl
attribute [go_sem] Try.underlying53
@[go_sem] theorem sz57 : szOf Try.prog 57 = some 1 := by kernel_rfl
@[go_sem] theorem ag57 : aggT Try.prog 57 = false := by kernel_rfl
@[go_sem] theorem by57 : Try.prog.bytesOf 57 = 8 := by kernel_rfl
@[go_sem] theorem un57 : (Try.prog.underlying 57).isNone = false := by kernel_rfl
@[go_sem] theorem zo57 : zerosOf Try.prog 57 = some [.nilP] := by kernel_rfl
attribute [go_sem] Try.underlying57
@[go_sem] theorem sz59 : szOf Try.prog 59 = some 2 := by kernel_rfl
@[go_sem] theorem ag59 : aggT Try.prog 59 = true := by kernel_rfl
@[go_sem] theorem by59 : Try.prog.bytesOf 59 = 32 := by kernel_rfl
@[go_sem] theorem un59 : (Try.prog.underlying 59).isNone = false := by kernel_rfl
@[go_sem] theorem zo59 : zerosOf Try.prog 59 = some [.nilS, .bool false] := by kernel_rfl
attribute [go_sem] Try.underlying59
@[go_sem] theorem gd59 : Try.prog.eqGuardType Try.prog.depth 59 = false := by kernel_rfl
@[go_sem] theorem st59 : Try.prog.stoodInHeld 59 = false := by kernel_rfl
@[go_sem] theorem eqs59 (d : Nat) (xs ys : List CV) : eqV Try.prog (d + 1) 59 (.agg xs) (.agg ys) = eqF Try.prog d xs ys (match Try.prog.underlying 59 with | some (.struct fs) => fs.toList | _ => []) := by rw [Try.underlying59]; exact eqV_struct Try.underlying59 st59 d xs ys
@[go_sem] theorem sz60 : szOf Try.prog 60 = some 2 := by kernel_rfl
@[go_sem] theorem ag60 : aggT Try.prog 60 = true := by kernel_rfl
@[go_sem] theorem by60 : Try.prog.bytesOf 60 = 32 := by kernel_rfl
@[go_sem] theorem un60 : (Try.prog.underlying 60).isNone = false := by kernel_rfl
@[go_sem] theorem zo60 : zerosOf Try.prog 60 = some [.nilS, .bool false] := by kernel_rfl
attribute [go_sem] Try.underlying60
@[go_sem] theorem gd60 : Try.prog.eqGuardType Try.prog.depth 60 = false := by kernel_rfl
@[go_sem] theorem st60 : Try.prog.stoodInHeld 60 = false := by kernel_rfl
@[go_sem] theorem eqs60 (d : Nat) (xs ys : List CV) : eqV Try.prog (d + 1) 60 (.agg xs) (.agg ys) = eqF Try.prog d xs ys (match Try.prog.underlying 60 with | some (.struct fs) => fs.toList | _ => []) := by rw [Try.underlying60]; exact eqV_struct Try.underlying60 st60 d xs ys
@[go_sem] theorem sz65 : szOf Try.prog 65 = some 1 := by kernel_rfl
@[go_sem] theorem ag65 : aggT Try.prog 65 = false := by kernel_rfl
@[go_sem] theorem by65 : Try.prog.bytesOf 65 = 8 := by kernel_rfl
@[go_sem] theorem un65 : (Try.prog.underlying 65).isNone = false := by kernel_rfl
@[go_sem] theorem zo65 : zerosOf Try.prog 65 = some [.int .u64 0] := by kernel_rfl
attribute [go_sem] Try.underlying65
@[go_sem] theorem eql65 (d : Nat) (k : IntKind) (a b : Int) : eqV Try.prog (d + 1) 65 (.int k a) (.int k b) = some (a == b) := eqV_int Try.underlying65 d k a b
@[go_sem] theorem sz69 : szOf Try.prog 69 = some 1 := by kernel_rfl
@[go_sem] theorem ag69 : aggT Try.prog 69 = false := by kernel_rfl
@[go_sem] theorem by69 : Try.prog.bytesOf 69 = 8 := by kernel_rfl
@[go_sem] theorem un69 : (Try.prog.underlying 69).isNone = false := by kernel_rfl
@[go_sem] theorem zo69 : zerosOf Try.prog 69 = some [.int .u64 0] := by kernel_rfl
attribute [go_sem] Try.underlying69
@[go_sem] theorem eql69 (d : Nat) (k : IntKind) (a b : Int) : eqV Try.prog (d + 1) 69 (.int k a) (.int k b) = some (a == b) := eqV_int Try.underlying69 d k a b
@[go_sem] theorem sz70 : szOf Try.prog 70 = some 2 := by kernel_rfl
@[go_sem] theorem ag70 : aggT Try.prog 70 = true := by kernel_rfl
@[go_sem] theorem by70 : Try.prog.bytesOf 70 = 32 := by kernel_rfl
@[go_sem] theorem un70 : (Try.prog.underlying 70).isNone = false := by kernel_rfl
@[go_sem] theorem zo70 : zerosOf Try.prog 70 = some [.nilS, .int .i64 0] := by kernel_rfl
attribute [go_sem] Try.underlying70
@[go_sem] theorem gd70 : Try.prog.eqGuardType Try.prog.depth 70 = false := by kernel_rfl
@[go_sem] theorem st70 : Try.prog.stoodInHeld 70 = false := by kernel_rfl
@[go_sem] theorem eqs70 (d : Nat) (xs ys : List CV) : eqV Try.prog (d + 1) 70 (.agg xs) (.agg ys) = eqF Try.prog d xs ys (match Try.prog.underlying 70 with | some (.struct fs) => fs.toList | _ => []) := by rw [Try.underlying70]; exact eqV_struct Try.underlying70 st70 d xs ys
@[go_sem] theorem sz71 : szOf Try.prog 71 = some 2 := by kernel_rfl
@[go_sem] theorem ag71 : aggT Try.prog 71 = true := by kernel_rfl
@[go_sem] theorem by71 : Try.prog.bytesOf 71 = 32 := by kernel_rfl
@[go_sem] theorem un71 : (Try.prog.underlying 71).isNone = false := by kernel_rfl
@[go_sem] theorem zo71 : zerosOf Try.prog 71 = some [.nilS, .int .i64 0] := by kernel_rfl
attribute [go_sem] Try.underlying71
@[go_sem] theorem gd71 : Try.prog.eqGuardType Try.prog.depth 71 = false := by kernel_rfl
@[go_sem] theorem st71 : Try.prog.stoodInHeld 71 = false := by kernel_rfl
@[go_sem] theorem eqs71 (d : Nat) (xs ys : List CV) : eqV Try.prog (d + 1) 71 (.agg xs) (.agg ys) = eqF Try.prog d xs ys (match Try.prog.underlying 71 with | some (.struct fs) => fs.toList | _ => []) := by rw [Try.underlying71]; exact eqV_struct Try.underlying71 st71 d xs ys
@[go_sem] theorem sz74 : szOf Try.prog 74 = some 4 := by kernel_rfl
@[go_sem] theorem ag74 : aggT Try.prog 74 = true := by kernel_rfl
@[go_sem] theorem by74 : Try.prog.bytesOf 74 = 40 := by kernel_rfl
@[go_sem] theorem un74 : (Try.prog.underlying 74).isNone = false := by kernel_rfl
@[go_sem] theorem zo74 : zerosOf Try.prog 74 = some [.nilP, .nilP, .nilP, .str []] := by kernel_rfl
attribute [go_sem] Try.underlying74
@[go_sem] theorem gd74 : Try.prog.eqGuardType Try.prog.depth 74 = false := by kernel_rfl
@[go_sem] theorem sz75 : szOf Try.prog 75 = some 4 := by kernel_rfl
@[go_sem] theorem ag75 : aggT Try.prog 75 = true := by kernel_rfl
@[go_sem] theorem by75 : Try.prog.bytesOf 75 = 40 := by kernel_rfl
@[go_sem] theorem un75 : (Try.prog.underlying 75).isNone = false := by kernel_rfl
@[go_sem] theorem zo75 : zerosOf Try.prog 75 = some [.nilP, .nilP, .nilP, .str []] := by kernel_rfl
attribute [go_sem] Try.underlying75
@[go_sem] theorem gd75 : Try.prog.eqGuardType Try.prog.depth 75 = false := by kernel_rfl
@[go_sem] theorem sz76 : szOf Try.prog 76 = some 0 := by kernel_rfl
@[go_sem] theorem ag76 : aggT Try.prog 76 = true := by kernel_rfl
@[go_sem] theorem by76 : Try.prog.bytesOf 76 = 0 := by kernel_rfl
@[go_sem] theorem un76 : (Try.prog.underlying 76).isNone = false := by kernel_rfl
@[go_sem] theorem zo76 : zerosOf Try.prog 76 = some [] := by kernel_rfl
attribute [go_sem] Try.underlying76
@[go_sem] theorem gd76 : Try.prog.eqGuardType Try.prog.depth 76 = false := by kernel_rfl
@[go_sem] theorem sz77 : szOf Try.prog 77 = some 0 := by kernel_rfl
@[go_sem] theorem ag77 : aggT Try.prog 77 = true := by kernel_rfl
@[go_sem] theorem by77 : Try.prog.bytesOf 77 = 0 := by kernel_rfl
@[go_sem] theorem un77 : (Try.prog.underlying 77).isNone = false := by kernel_rfl
@[go_sem] theorem zo77 : zerosOf Try.prog 77 = some [] := by kernel_rfl
attribute [go_sem] Try.underlying77
@[go_sem] theorem gd77 : Try.prog.eqGuardType Try.prog.depth 77 = false := by kernel_rfl
@[go_sem] theorem sz78 : szOf Try.prog 78 = some 0 := by kernel_rfl
@[go_sem] theorem ag78 : aggT Try.prog 78 = true := by kernel_rfl
@[go_sem] theorem by78 : Try.prog.bytesOf 78 = 0 := by kernel_rfl
@[go_sem] theorem un78 : (Try.prog.underlying 78).isNone = false := by kernel_rfl
@[go_sem] theorem zo78 : zerosOf Try.prog 78 = some [] := by kernel_rfl
attribute [go_sem] Try.underlying78
@[go_sem] theorem gd78 : Try.prog.eqGuardType Try.prog.depth 78 = false := by kernel_rfl
@[go_sem] theorem sz80 : szOf Try.prog 80 = some 1 := by kernel_rfl
@[go_sem] theorem ag80 : aggT Try.prog 80 = false := by kernel_rfl
@[go_sem] theorem by80 : Try.prog.bytesOf 80 = 1 := by kernel_rfl
@[go_sem] theorem un80 : (Try.prog.underlying 80).isNone = false := by kernel_rfl
@[go_sem] theorem zo80 : zerosOf Try.prog 80 = some [.int .u8 0] := by kernel_rfl
attribute [go_sem] Try.underlying80
@[go_sem] theorem eql80 (d : Nat) (k : IntKind) (a b : Int) : eqV Try.prog (d + 1) 80 (.int k a) (.int k b) = some (a == b) := eqV_int Try.underlying80 d k a b
@[go_sem] theorem sz81 : szOf Try.prog 81 = some 1 := by kernel_rfl
@[go_sem] theorem ag81 : aggT Try.prog 81 = false := by kernel_rfl
@[go_sem] theorem by81 : Try.prog.bytesOf 81 = 1 := by kernel_rfl
@[go_sem] theorem un81 : (Try.prog.underlying 81).isNone = false := by kernel_rfl
@[go_sem] theorem zo81 : zerosOf Try.prog 81 = some [.int .u8 0] := by kernel_rfl
attribute [go_sem] Try.underlying81
@[go_sem] theorem eql81 (d : Nat) (k : IntKind) (a b : Int) : eqV Try.prog (d + 1) 81 (.int k a) (.int k b) = some (a == b) := eqV_int Try.underlying81 d k a b
@[go_sem] theorem sz83 : szOf Try.prog 83 = some 1 := by kernel_rfl
@[go_sem] theorem ag83 : aggT Try.prog 83 = false := by kernel_rfl
@[go_sem] theorem by83 : Try.prog.bytesOf 83 = 8 := by kernel_rfl
@[go_sem] theorem un83 : (Try.prog.underlying 83).isNone = false := by kernel_rfl
@[go_sem] theorem zo83 : zerosOf Try.prog 83 = some [.nilP] := by kernel_rfl
attribute [go_sem] Try.underlying83
@[go_sem] theorem sz84 : szOf Try.prog 84 = some 1 := by kernel_rfl
@[go_sem] theorem ag84 : aggT Try.prog 84 = false := by kernel_rfl
@[go_sem] theorem by84 : Try.prog.bytesOf 84 = 4 := by kernel_rfl
@[go_sem] theorem un84 : (Try.prog.underlying 84).isNone = false := by kernel_rfl
@[go_sem] theorem zo84 : zerosOf Try.prog 84 = some [.int .i32 0] := by kernel_rfl
attribute [go_sem] Try.underlying84
@[go_sem] theorem eql84 (d : Nat) (k : IntKind) (a b : Int) : eqV Try.prog (d + 1) 84 (.int k a) (.int k b) = some (a == b) := eqV_int Try.underlying84 d k a b
@[go_sem] theorem sz85 : szOf Try.prog 85 = some 1 := by kernel_rfl
@[go_sem] theorem ag85 : aggT Try.prog 85 = false := by kernel_rfl
@[go_sem] theorem by85 : Try.prog.bytesOf 85 = 4 := by kernel_rfl
@[go_sem] theorem un85 : (Try.prog.underlying 85).isNone = false := by kernel_rfl
@[go_sem] theorem zo85 : zerosOf Try.prog 85 = some [.int .i32 0] := by kernel_rfl
attribute [go_sem] Try.underlying85
@[go_sem] theorem eql85 (d : Nat) (k : IntKind) (a b : Int) : eqV Try.prog (d + 1) 85 (.int k a) (.int k b) = some (a == b) := eqV_int Try.underlying85 d k a b
@[go_sem] theorem sz86 : szOf Try.prog 86 = some 11 := by kernel_rfl
@[go_sem] theorem ag86 : aggT Try.prog 86 = true := by kernel_rfl
@[go_sem] theorem by86 : Try.prog.bytesOf 86 = 48 := by kernel_rfl
@[go_sem] theorem un86 : (Try.prog.underlying 86).isNone = false := by kernel_rfl
@[go_sem] theorem zo86 : zerosOf Try.prog 86 = some [.int .u64 0, .int .u64 0, .int .u32 0, .int .u8 0, .int .u8 0, .int .u8 0, .int .u8 0, .nilF, .nilP, .int .i32 0, .int .i32 0] := by kernel_rfl
attribute [go_sem] Try.underlying86
@[go_sem] theorem gd86 : Try.prog.eqGuardType Try.prog.depth 86 = false := by kernel_rfl
@[go_sem] theorem sz87 : szOf Try.prog 87 = some 11 := by kernel_rfl
@[go_sem] theorem ag87 : aggT Try.prog 87 = true := by kernel_rfl
@[go_sem] theorem by87 : Try.prog.bytesOf 87 = 48 := by kernel_rfl
@[go_sem] theorem un87 : (Try.prog.underlying 87).isNone = false := by kernel_rfl
@[go_sem] theorem zo87 : zerosOf Try.prog 87 = some [.int .u64 0, .int .u64 0, .int .u32 0, .int .u8 0, .int .u8 0, .int .u8 0, .int .u8 0, .nilF, .nilP, .int .i32 0, .int .i32 0] := by kernel_rfl
attribute [go_sem] Try.underlying87
@[go_sem] theorem gd87 : Try.prog.eqGuardType Try.prog.depth 87 = false := by kernel_rfl
@[go_sem] theorem sz88 : szOf Try.prog 88 = some 1 := by kernel_rfl
@[go_sem] theorem ag88 : aggT Try.prog 88 = false := by kernel_rfl
@[go_sem] theorem by88 : Try.prog.bytesOf 88 = 8 := by kernel_rfl
@[go_sem] theorem un88 : (Try.prog.underlying 88).isNone = false := by kernel_rfl
@[go_sem] theorem zo88 : zerosOf Try.prog 88 = some [.nilP] := by kernel_rfl
attribute [go_sem] Try.underlying88
-- 0 main.main
-- 1 gosem.cut
-- 2 gosem.cut.init
theorem ca2 : callable Try.prog 2 = true := by kernel_rfl
-- 3 burrow/burrowlaw30.FrameFeeds
theorem ca3 : callable Try.prog 3 = true := by kernel_rfl
-- 4 burrow/burrowlaw30.FrameArrives
theorem ca4 : callable Try.prog 4 = true := by kernel_rfl
-- 5 burrow/burrowlaw30.FrameDetects
theorem ca5 : callable Try.prog 5 = true := by kernel_rfl
-- 6 burrow/burrowlaw30.FrameEncodes
theorem ca6 : callable Try.prog 6 = true := by kernel_rfl
-- 7 burrow/burrowlaw30.FrameCarries
theorem ca7 : callable Try.prog 7 = true := by kernel_rfl
-- 8 burrow/burrowlaw30.made
theorem ca8 : callable Try.prog 8 = true := by kernel_rfl
-- 9 burrow/burrowcase.Cut
theorem ca9 : callable Try.prog 9 = true := by kernel_rfl
-- 10 burrow/frame.Feed
theorem ca10 : callable Try.prog 10 = true := by kernel_rfl
-- 11 burrow/burrowref30.Feed
theorem ca11 : callable Try.prog 11 = true := by kernel_rfl
-- 12 burrow/burrowref31.SameReader
theorem ca12 : callable Try.prog 12 = true := by kernel_rfl
-- 13 burrow/burrowref30.Same
theorem ca13 : callable Try.prog 13 = true := by kernel_rfl
-- 14 burrow/burrowlaw30.begun
theorem ca14 : callable Try.prog 14 = true := by kernel_rfl
-- 15 burrow/frame.Encode
theorem ca15 : callable Try.prog 15 = true := by kernel_rfl
-- 16 burrow/burrowlaw30.feed
theorem ca16 : callable Try.prog 16 = true := by kernel_rfl
-- 17 burrow/burrowcase.Mod
theorem ca17 : callable Try.prog 17 = true := by kernel_rfl
-- 18 burrow/burrowref30.Encode
theorem ca18 : callable Try.prog 18 = true := by kernel_rfl
-- 19 burrow/frame.Crc
theorem ca19 : callable Try.prog 19 = true := by kernel_rfl
-- 20 burrow/burrowref30.Crc
theorem ca20 : callable Try.prog 20 = true := by kernel_rfl
-- 21 burrow/frame.Parts
theorem ca21 : callable Try.prog 21 = true := by kernel_rfl
-- 22 burrow/burrowref30.Parts
theorem ca22 : callable Try.prog 22 = true := by kernel_rfl
-- 23 burrow/burrowcase.New
theorem ca23 : callable Try.prog 23 = true := by kernel_rfl
-- 24 (*burrow/burrowcase.Codes).Next
theorem ca24 : callable Try.prog 24 = true := by kernel_rfl
-- 25 (*burrow/burrowcase.Codes).Bytes
theorem ca25 : callable Try.prog 25 = true := by kernel_rfl
-- 26 slices.Clone[[]byte,byte]
theorem ca26 : callable Try.prog 26 = true := by kernel_rfl
-- 27 (*burrow/frame.stream).frames
theorem ca27 : callable Try.prog 27 = true := by kernel_rfl
-- 28 burrow/burrowref01.Join
theorem ca28 : callable Try.prog 28 = true := by kernel_rfl
-- 29 burrow/burrowref01.ReadBig
theorem ca29 : callable Try.prog 29 = true := by kernel_rfl
-- 30 burrow/burrowref30.sum
theorem ca30 : callable Try.prog 30 = true := by kernel_rfl
-- 31 burrow/burrowref30.kind
theorem ca31 : callable Try.prog 31 = true := by kernel_rfl
-- 32 burrow/frame.known
theorem ca32 : callable Try.prog 32 = true := by kernel_rfl
-- 33 burrow/codec.Join
theorem ca33 : callable Try.prog 33 = true := by kernel_rfl
-- 34 burrow/codec.Big
theorem ca34 : callable Try.prog 34 = true := by kernel_rfl
-- 35 burrow/frame.sum
theorem ca35 : callable Try.prog 35 = true := by kernel_rfl
-- 36 burrow/burrowref01.Big
theorem ca36 : callable Try.prog 36 = true := by kernel_rfl
-- 37 (*burrow/burrowcase.Codes).Left
theorem ca37 : callable Try.prog 37 = true := by kernel_rfl
-- 38 (*burrow/frame.stream).frames$1
theorem ca38 : callable Try.prog 38 = true := by kernel_rfl
-- 39 burrow/codec.ReadBig
theorem ca39 : callable Try.prog 39 = true := by kernel_rfl
-- 40 burrow/codec.Equal
theorem ca40 : callable Try.prog 40 = true := by kernel_rfl
-- 41 (*burrow/frame.stream).fail
theorem ca41 : callable Try.prog 41 = true := by kernel_rfl
-- 42 burrow/burrowref01.Little
theorem ca42 : callable Try.prog 42 = true := by kernel_rfl
-- 43 (runtime.boundsError).Error
-- 44 (runtime.boundsError).RuntimeError
-- 45 (runtime.errorString).Error
-- 46 (runtime.errorString).RuntimeError
-- 47 (runtime.plainError).Error
-- 48 (runtime.plainError).RuntimeError
-- 49 (runtime.errorAddressString).Error
-- 50 (runtime.errorAddressString).RuntimeError
-- 51 (*runtime.TypeAssertionError).Error
-- 52 (*runtime.TypeAssertionError).RuntimeError
-- 53 (*runtime.PanicNilError).Error
-- 54 (*runtime.PanicNilError).RuntimeError
-- 55 (*internal/abi.Type).Align
-- 56 (internal/runtime/maps.unhashableTypeError).Error
-- 57 (internal/runtime/maps.unhashableTypeError).RuntimeError
-- 58 (*burrow/burrowcase.Codes).Bool
-- 59 (internal/abi.Kind).String

end Go.Proofs.Ytjlfblcoghiijaa
