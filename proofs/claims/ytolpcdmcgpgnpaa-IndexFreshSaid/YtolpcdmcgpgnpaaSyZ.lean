/- Closed facts of the seat program for the canonical machine: printed by facts.py. -/
import Derived.Test.YtolpcdmcgpgnpaaSyX
import Derived.Test.YtolpcdmcgpgnpaaRows
import Derived.KernelRfl
namespace Go.Proofs.Ytolpcdmcgpgnpaa
open Go Go.Sy

theorem mixed : Try.prog.follows .mixedOrders = true := by kernel_rfl
@[go_sem] theorem sz2 : szOf Try.prog 2 = some 1 := by kernel_rfl
@[go_sem] theorem ag2 : aggT Try.prog 2 = false := by kernel_rfl
@[go_sem] theorem by2 : Try.prog.bytesOf 2 = 8 := by kernel_rfl
@[go_sem] theorem un2 : (Try.prog.underlying 2).isNone = false := by kernel_rfl
@[go_sem] theorem zo2 : zerosOf Try.prog 2 = some [.int .i64 0] := by kernel_rfl
attribute [go_sem] Try.underlying2
@[go_sem] theorem eql2 (d : Nat) (k : IntKind) (a b : Int) : eqV Try.prog (d + 1) 2 (.int k a) (.int k b) = some (a == b) := eqV_int Try.underlying2 d k a b
@[go_sem] theorem sz3 : szOf Try.prog 3 = some 1 := by kernel_rfl
@[go_sem] theorem ag3 : aggT Try.prog 3 = false := by kernel_rfl
@[go_sem] theorem by3 : Try.prog.bytesOf 3 = 8 := by kernel_rfl
@[go_sem] theorem un3 : (Try.prog.underlying 3).isNone = false := by kernel_rfl
@[go_sem] theorem zo3 : zerosOf Try.prog 3 = some [.int .i64 0] := by kernel_rfl
attribute [go_sem] Try.underlying3
@[go_sem] theorem eql3 (d : Nat) (k : IntKind) (a b : Int) : eqV Try.prog (d + 1) 3 (.int k a) (.int k b) = some (a == b) := eqV_int Try.underlying3 d k a b
@[go_sem] theorem sz4 : szOf Try.prog 4 = some 1 := by kernel_rfl
@[go_sem] theorem ag4 : aggT Try.prog 4 = false := by kernel_rfl
@[go_sem] theorem by4 : Try.prog.bytesOf 4 = 1 := by kernel_rfl
@[go_sem] theorem un4 : (Try.prog.underlying 4).isNone = false := by kernel_rfl
@[go_sem] theorem zo4 : zerosOf Try.prog 4 = some [.bool false] := by kernel_rfl
attribute [go_sem] Try.underlying4
@[go_sem] theorem eql4 (d : Nat) (a b : Bool) : eqV Try.prog (d + 1) 4 (.bool a) (.bool b) = some (a == b) := eqV_bool Try.underlying4 d a b
@[go_sem] theorem sz5 : szOf Try.prog 5 = some 1 := by kernel_rfl
@[go_sem] theorem ag5 : aggT Try.prog 5 = false := by kernel_rfl
@[go_sem] theorem by5 : Try.prog.bytesOf 5 = 1 := by kernel_rfl
@[go_sem] theorem un5 : (Try.prog.underlying 5).isNone = false := by kernel_rfl
@[go_sem] theorem zo5 : zerosOf Try.prog 5 = some [.int .u8 0] := by kernel_rfl
attribute [go_sem] Try.underlying5
@[go_sem] theorem eql5 (d : Nat) (k : IntKind) (a b : Int) : eqV Try.prog (d + 1) 5 (.int k a) (.int k b) = some (a == b) := eqV_int Try.underlying5 d k a b
@[go_sem] theorem sz6 : szOf Try.prog 6 = some 1 := by kernel_rfl
@[go_sem] theorem ag6 : aggT Try.prog 6 = false := by kernel_rfl
@[go_sem] theorem by6 : Try.prog.bytesOf 6 = 1 := by kernel_rfl
@[go_sem] theorem un6 : (Try.prog.underlying 6).isNone = false := by kernel_rfl
@[go_sem] theorem zo6 : zerosOf Try.prog 6 = some [.int .u8 0] := by kernel_rfl
attribute [go_sem] Try.underlying6
@[go_sem] theorem eql6 (d : Nat) (k : IntKind) (a b : Int) : eqV Try.prog (d + 1) 6 (.int k a) (.int k b) = some (a == b) := eqV_int Try.underlying6 d k a b
@[go_sem] theorem sz7 : szOf Try.prog 7 = some 4 := by kernel_rfl
@[go_sem] theorem ag7 : aggT Try.prog 7 = true := by kernel_rfl
@[go_sem] theorem by7 : Try.prog.bytesOf 7 = 24 := by kernel_rfl
@[go_sem] theorem un7 : (Try.prog.underlying 7).isNone = false := by kernel_rfl
@[go_sem] theorem zo7 : zerosOf Try.prog 7 = some [.int .i64 0, .int .i64 0, .bool false, .int .u8 0] := by kernel_rfl
attribute [go_sem] Try.underlying7
@[go_sem] theorem gd7 : Try.prog.eqGuardType Try.prog.depth 7 = false := by kernel_rfl
@[go_sem] theorem st7 : Try.prog.stoodInHeld 7 = false := by kernel_rfl
@[go_sem] theorem eqs7 (d : Nat) (xs ys : List CV) : eqV Try.prog (d + 1) 7 (.agg xs) (.agg ys) = eqF Try.prog d xs ys (match Try.prog.underlying 7 with | some (.struct fs) => fs.toList | _ => []) := by rw [Try.underlying7]; exact eqV_struct Try.underlying7 st7 d xs ys
@[go_sem] theorem sz8 : szOf Try.prog 8 = some 4 := by kernel_rfl
@[go_sem] theorem ag8 : aggT Try.prog 8 = true := by kernel_rfl
@[go_sem] theorem by8 : Try.prog.bytesOf 8 = 24 := by kernel_rfl
@[go_sem] theorem un8 : (Try.prog.underlying 8).isNone = false := by kernel_rfl
@[go_sem] theorem zo8 : zerosOf Try.prog 8 = some [.int .i64 0, .int .i64 0, .bool false, .int .u8 0] := by kernel_rfl
attribute [go_sem] Try.underlying8
@[go_sem] theorem gd8 : Try.prog.eqGuardType Try.prog.depth 8 = false := by kernel_rfl
@[go_sem] theorem st8 : Try.prog.stoodInHeld 8 = false := by kernel_rfl
@[go_sem] theorem eqs8 (d : Nat) (xs ys : List CV) : eqV Try.prog (d + 1) 8 (.agg xs) (.agg ys) = eqF Try.prog d xs ys (match Try.prog.underlying 8 with | some (.struct fs) => fs.toList | _ => []) := by rw [Try.underlying8]; exact eqV_struct Try.underlying8 st8 d xs ys
@[go_sem] theorem sz9 : szOf Try.prog 9 = some 1 := by kernel_rfl
@[go_sem] theorem ag9 : aggT Try.prog 9 = false := by kernel_rfl
@[go_sem] theorem by9 : Try.prog.bytesOf 9 = 16 := by kernel_rfl
@[go_sem] theorem un9 : (Try.prog.underlying 9).isNone = false := by kernel_rfl
@[go_sem] theorem zo9 : zerosOf Try.prog 9 = some [.str []] := by kernel_rfl
attribute [go_sem] Try.underlying9
@[go_sem] theorem eql9 (d : Nat) (a b : List UInt8) : eqV Try.prog (d + 1) 9 (.str a) (.str b) = some (a == b) := eqV_str Try.underlying9 d a b
@[go_sem] theorem sz10 : szOf Try.prog 10 = some 1 := by kernel_rfl
@[go_sem] theorem ag10 : aggT Try.prog 10 = false := by kernel_rfl
@[go_sem] theorem by10 : Try.prog.bytesOf 10 = 16 := by kernel_rfl
@[go_sem] theorem un10 : (Try.prog.underlying 10).isNone = false := by kernel_rfl
@[go_sem] theorem zo10 : zerosOf Try.prog 10 = some [.str []] := by kernel_rfl
attribute [go_sem] Try.underlying10
@[go_sem] theorem eql10 (d : Nat) (a b : List UInt8) : eqV Try.prog (d + 1) 10 (.str a) (.str b) = some (a == b) := eqV_str Try.underlying10 d a b
@[go_sem] theorem sz11 : szOf Try.prog 11 = some 1 := by kernel_rfl
@[go_sem] theorem ag11 : aggT Try.prog 11 = false := by kernel_rfl
@[go_sem] theorem by11 : Try.prog.bytesOf 11 = 16 := by kernel_rfl
@[go_sem] theorem un11 : (Try.prog.underlying 11).isNone = false := by kernel_rfl
@[go_sem] theorem zo11 : zerosOf Try.prog 11 = some [.str []] := by kernel_rfl
attribute [go_sem] Try.underlying11
@[go_sem] theorem eql11 (d : Nat) (a b : List UInt8) : eqV Try.prog (d + 1) 11 (.str a) (.str b) = some (a == b) := eqV_str Try.underlying11 d a b
@[go_sem] theorem sz12 : szOf Try.prog 12 = some 1 := by kernel_rfl
@[go_sem] theorem ag12 : aggT Try.prog 12 = false := by kernel_rfl
@[go_sem] theorem by12 : Try.prog.bytesOf 12 = 8 := by kernel_rfl
@[go_sem] theorem un12 : (Try.prog.underlying 12).isNone = false := by kernel_rfl
@[go_sem] theorem zo12 : zerosOf Try.prog 12 = some [.int .u64 0] := by kernel_rfl
attribute [go_sem] Try.underlying12
@[go_sem] theorem eql12 (d : Nat) (k : IntKind) (a b : Int) : eqV Try.prog (d + 1) 12 (.int k a) (.int k b) = some (a == b) := eqV_int Try.underlying12 d k a b
@[go_sem] theorem sz13 : szOf Try.prog 13 = some 2 := by kernel_rfl
@[go_sem] theorem ag13 : aggT Try.prog 13 = true := by kernel_rfl
@[go_sem] theorem by13 : Try.prog.bytesOf 13 = 24 := by kernel_rfl
@[go_sem] theorem un13 : (Try.prog.underlying 13).isNone = false := by kernel_rfl
@[go_sem] theorem zo13 : zerosOf Try.prog 13 = some [.str [], .int .u64 0] := by kernel_rfl
attribute [go_sem] Try.underlying13
@[go_sem] theorem gd13 : Try.prog.eqGuardType Try.prog.depth 13 = false := by kernel_rfl
@[go_sem] theorem sz14 : szOf Try.prog 14 = some 2 := by kernel_rfl
@[go_sem] theorem ag14 : aggT Try.prog 14 = true := by kernel_rfl
@[go_sem] theorem by14 : Try.prog.bytesOf 14 = 24 := by kernel_rfl
@[go_sem] theorem un14 : (Try.prog.underlying 14).isNone = false := by kernel_rfl
@[go_sem] theorem zo14 : zerosOf Try.prog 14 = some [.str [], .int .u64 0] := by kernel_rfl
attribute [go_sem] Try.underlying14
@[go_sem] theorem gd14 : Try.prog.eqGuardType Try.prog.depth 14 = false := by kernel_rfl
@[go_sem] theorem sz15 : szOf Try.prog 15 = some 1 := by kernel_rfl
@[go_sem] theorem ag15 : aggT Try.prog 15 = false := by kernel_rfl
@[go_sem] theorem by15 : Try.prog.bytesOf 15 = 8 := by kernel_rfl
@[go_sem] theorem un15 : (Try.prog.underlying 15).isNone = false := by kernel_rfl
@[go_sem] theorem zo15 : zerosOf Try.prog 15 = some [.nilP] := by kernel_rfl
attribute [go_sem] Try.underlying15
@[go_sem] theorem sz16 : szOf Try.prog 16 = some 1 := by kernel_rfl
@[go_sem] theorem ag16 : aggT Try.prog 16 = false := by kernel_rfl
@[go_sem] theorem by16 : Try.prog.bytesOf 16 = 8 := by kernel_rfl
@[go_sem] theorem un16 : (Try.prog.underlying 16).isNone = false := by kernel_rfl
@[go_sem] theorem zo16 : zerosOf Try.prog 16 = some [.nilP] := by kernel_rfl
attribute [go_sem] Try.underlying16
@[go_sem] theorem sz17 : szOf Try.prog 17 = some 1 := by kernel_rfl
@[go_sem] theorem ag17 : aggT Try.prog 17 = false := by kernel_rfl
@[go_sem] theorem by17 : Try.prog.bytesOf 17 = 8 := by kernel_rfl
@[go_sem] theorem un17 : (Try.prog.underlying 17).isNone = false := by kernel_rfl
@[go_sem] theorem zo17 : zerosOf Try.prog 17 = some [.nilP] := by kernel_rfl
attribute [go_sem] Try.underlying17
@[go_sem] theorem sz18 : szOf Try.prog 18 = some 1 := by kernel_rfl
@[go_sem] theorem ag18 : aggT Try.prog 18 = true := by kernel_rfl
@[go_sem] theorem by18 : Try.prog.bytesOf 18 = 8 := by kernel_rfl
@[go_sem] theorem un18 : (Try.prog.underlying 18).isNone = false := by kernel_rfl
@[go_sem] theorem zo18 : zerosOf Try.prog 18 = some [.nilP] := by kernel_rfl
attribute [go_sem] Try.underlying18
@[go_sem] theorem gd18 : Try.prog.eqGuardType Try.prog.depth 18 = false := by kernel_rfl
@[go_sem] theorem sz19 : szOf Try.prog 19 = some 1 := by kernel_rfl
@[go_sem] theorem ag19 : aggT Try.prog 19 = true := by kernel_rfl
@[go_sem] theorem by19 : Try.prog.bytesOf 19 = 8 := by kernel_rfl
@[go_sem] theorem un19 : (Try.prog.underlying 19).isNone = false := by kernel_rfl
@[go_sem] theorem zo19 : zerosOf Try.prog 19 = some [.nilP] := by kernel_rfl
attribute [go_sem] Try.underlying19
@[go_sem] theorem gd19 : Try.prog.eqGuardType Try.prog.depth 19 = false := by kernel_rfl
@[go_sem] theorem sz21 : szOf Try.prog 21 = some 1 := by kernel_rfl
@[go_sem] theorem ag21 : aggT Try.prog 21 = false := by kernel_rfl
@[go_sem] theorem by21 : Try.prog.bytesOf 21 = 4 := by kernel_rfl
@[go_sem] theorem un21 : (Try.prog.underlying 21).isNone = false := by kernel_rfl
@[go_sem] theorem zo21 : zerosOf Try.prog 21 = some [.int .i32 0] := by kernel_rfl
attribute [go_sem] Try.underlying21
@[go_sem] theorem eql21 (d : Nat) (k : IntKind) (a b : Int) : eqV Try.prog (d + 1) 21 (.int k a) (.int k b) = some (a == b) := eqV_int Try.underlying21 d k a b
@[go_sem] theorem sz22 : szOf Try.prog 22 = some 1 := by kernel_rfl
@[go_sem] theorem ag22 : aggT Try.prog 22 = false := by kernel_rfl
@[go_sem] theorem by22 : Try.prog.bytesOf 22 = 24 := by kernel_rfl
@[go_sem] theorem un22 : (Try.prog.underlying 22).isNone = false := by kernel_rfl
@[go_sem] theorem zo22 : zerosOf Try.prog 22 = some [.nilS] := by kernel_rfl
attribute [go_sem] Try.underlying22
@[go_sem] theorem el22 : elemT Try.prog 22 = some 5 := by kernel_rfl
@[go_sem] theorem ap22 (B : List Box) (s x : CV) : appendC Try.prog 22 B s x = appendK Try.prog 5 1 B s x := appendC_eq (by kernel_rfl) (by kernel_rfl) (by kernel_rfl) B s x
@[go_sem] theorem sz23 : szOf Try.prog 23 = some 1 := by kernel_rfl
@[go_sem] theorem ag23 : aggT Try.prog 23 = false := by kernel_rfl
@[go_sem] theorem by23 : Try.prog.bytesOf 23 = 2 := by kernel_rfl
@[go_sem] theorem un23 : (Try.prog.underlying 23).isNone = false := by kernel_rfl
@[go_sem] theorem zo23 : zerosOf Try.prog 23 = some [.int .u16 0] := by kernel_rfl
attribute [go_sem] Try.underlying23
@[go_sem] theorem eql23 (d : Nat) (k : IntKind) (a b : Int) : eqV Try.prog (d + 1) 23 (.int k a) (.int k b) = some (a == b) := eqV_int Try.underlying23 d k a b
@[go_sem] theorem sz24 : szOf Try.prog 24 = some 2 := by kernel_rfl
@[go_sem] theorem ag24 : aggT Try.prog 24 = true := by kernel_rfl
@[go_sem] theorem by24 : Try.prog.bytesOf 24 = 32 := by kernel_rfl
@[go_sem] theorem un24 : (Try.prog.underlying 24).isNone = false := by kernel_rfl
@[go_sem] theorem zo24 : zerosOf Try.prog 24 = some [.nilS, .bool false] := by kernel_rfl
attribute [go_sem] Try.underlying24
@[go_sem] theorem gd24 : Try.prog.eqGuardType Try.prog.depth 24 = false := by kernel_rfl
@[go_sem] theorem st24 : Try.prog.stoodInHeld 24 = false := by kernel_rfl
@[go_sem] theorem eqs24 (d : Nat) (xs ys : List CV) : eqV Try.prog (d + 1) 24 (.agg xs) (.agg ys) = eqF Try.prog d xs ys (match Try.prog.underlying 24 with | some (.struct fs) => fs.toList | _ => []) := by rw [Try.underlying24]; exact eqV_struct Try.underlying24 st24 d xs ys
@[go_sem] theorem sz25 : szOf Try.prog 25 = some 2 := by kernel_rfl
@[go_sem] theorem ag25 : aggT Try.prog 25 = true := by kernel_rfl
@[go_sem] theorem by25 : Try.prog.bytesOf 25 = 32 := by kernel_rfl
@[go_sem] theorem un25 : (Try.prog.underlying 25).isNone = false := by kernel_rfl
@[go_sem] theorem zo25 : zerosOf Try.prog 25 = some [.nilS, .bool false] := by kernel_rfl
attribute [go_sem] Try.underlying25
@[go_sem] theorem gd25 : Try.prog.eqGuardType Try.prog.depth 25 = false := by kernel_rfl
@[go_sem] theorem st25 : Try.prog.stoodInHeld 25 = false := by kernel_rfl
@[go_sem] theorem eqs25 (d : Nat) (xs ys : List CV) : eqV Try.prog (d + 1) 25 (.agg xs) (.agg ys) = eqF Try.prog d xs ys (match Try.prog.underlying 25 with | some (.struct fs) => fs.toList | _ => []) := by rw [Try.underlying25]; exact eqV_struct Try.underlying25 st25 d xs ys
@[go_sem] theorem sz26 : szOf Try.prog 26 = some 1 := by kernel_rfl
@[go_sem] theorem ag26 : aggT Try.prog 26 = false := by kernel_rfl
@[go_sem] theorem by26 : Try.prog.bytesOf 26 = 24 := by kernel_rfl
@[go_sem] theorem un26 : (Try.prog.underlying 26).isNone = false := by kernel_rfl
@[go_sem] theorem zo26 : zerosOf Try.prog 26 = some [.nilS] := by kernel_rfl
attribute [go_sem] Try.underlying26
@[go_sem] theorem el26 : elemT Try.prog 26 = some 39 := by kernel_rfl
@[go_sem] theorem ap26 (B : List Box) (s x : CV) : appendC Try.prog 26 B s x = appendK Try.prog 39 2 B s x := appendC_eq (by kernel_rfl) (by kernel_rfl) (by kernel_rfl) B s x
@[go_sem] theorem sz30 : szOf Try.prog 30 = some 1 := by kernel_rfl
@[go_sem] theorem ag30 : aggT Try.prog 30 = false := by kernel_rfl
@[go_sem] theorem by30 : Try.prog.bytesOf 30 = 24 := by kernel_rfl
@[go_sem] theorem un30 : (Try.prog.underlying 30).isNone = false := by kernel_rfl
@[go_sem] theorem zo30 : zerosOf Try.prog 30 = some [.nilS] := by kernel_rfl
attribute [go_sem] Try.underlying30
@[go_sem] theorem el30 : elemT Try.prog 30 = some 22 := by kernel_rfl
@[go_sem] theorem ap30 (B : List Box) (s x : CV) : appendC Try.prog 30 B s x = appendK Try.prog 22 1 B s x := appendC_eq (by kernel_rfl) (by kernel_rfl) (by kernel_rfl) B s x
@[go_sem] theorem sz31 : szOf Try.prog 31 = some 1 := by kernel_rfl
@[go_sem] theorem ag31 : aggT Try.prog 31 = false := by kernel_rfl
@[go_sem] theorem by31 : Try.prog.bytesOf 31 = 24 := by kernel_rfl
@[go_sem] theorem un31 : (Try.prog.underlying 31).isNone = false := by kernel_rfl
@[go_sem] theorem zo31 : zerosOf Try.prog 31 = some [.nilS] := by kernel_rfl
attribute [go_sem] Try.underlying31
@[go_sem] theorem el31 : elemT Try.prog 31 = some 25 := by kernel_rfl
@[go_sem] theorem ap31 (B : List Box) (s x : CV) : appendC Try.prog 31 B s x = appendK Try.prog 25 2 B s x := appendC_eq (by kernel_rfl) (by kernel_rfl) (by kernel_rfl) B s x
@[go_sem] theorem sz38 : szOf Try.prog 38 = some 2 := by kernel_rfl
@[go_sem] theorem ag38 : aggT Try.prog 38 = true := by kernel_rfl
@[go_sem] theorem by38 : Try.prog.bytesOf 38 = 32 := by kernel_rfl
@[go_sem] theorem un38 : (Try.prog.underlying 38).isNone = false := by kernel_rfl
@[go_sem] theorem zo38 : zerosOf Try.prog 38 = some [.int .i64 0, .nilS] := by kernel_rfl
attribute [go_sem] Try.underlying38
@[go_sem] theorem gd38 : Try.prog.eqGuardType Try.prog.depth 38 = false := by kernel_rfl
@[go_sem] theorem st38 : Try.prog.stoodInHeld 38 = false := by kernel_rfl
@[go_sem] theorem eqs38 (d : Nat) (xs ys : List CV) : eqV Try.prog (d + 1) 38 (.agg xs) (.agg ys) = eqF Try.prog d xs ys (match Try.prog.underlying 38 with | some (.struct fs) => fs.toList | _ => []) := by rw [Try.underlying38]; exact eqV_struct Try.underlying38 st38 d xs ys
@[go_sem] theorem sz39 : szOf Try.prog 39 = some 2 := by kernel_rfl
@[go_sem] theorem ag39 : aggT Try.prog 39 = true := by kernel_rfl
@[go_sem] theorem by39 : Try.prog.bytesOf 39 = 32 := by kernel_rfl
@[go_sem] theorem un39 : (Try.prog.underlying 39).isNone = false := by kernel_rfl
@[go_sem] theorem zo39 : zerosOf Try.prog 39 = some [.int .i64 0, .nilS] := by kernel_rfl
attribute [go_sem] Try.underlying39
@[go_sem] theorem gd39 : Try.prog.eqGuardType Try.prog.depth 39 = false := by kernel_rfl
@[go_sem] theorem st39 : Try.prog.stoodInHeld 39 = false := by kernel_rfl
@[go_sem] theorem eqs39 (d : Nat) (xs ys : List CV) : eqV Try.prog (d + 1) 39 (.agg xs) (.agg ys) = eqF Try.prog d xs ys (match Try.prog.underlying 39 with | some (.struct fs) => fs.toList | _ => []) := by rw [Try.underlying39]; exact eqV_struct Try.underlying39 st39 d xs ys
@[go_sem] theorem sz40 : szOf Try.prog 40 = some 1 := by kernel_rfl
@[go_sem] theorem ag40 : aggT Try.prog 40 = false := by kernel_rfl
@[go_sem] theorem by40 : Try.prog.bytesOf 40 = 8 := by kernel_rfl
@[go_sem] theorem un40 : (Try.prog.underlying 40).isNone = false := by kernel_rfl
@[go_sem] theorem zo40 : zerosOf Try.prog 40 = some [.int .i64 0] := by kernel_rfl
attribute [go_sem] Try.underlying40
@[go_sem] theorem eql40 (d : Nat) (k : IntKind) (a b : Int) : eqV Try.prog (d + 1) 40 (.int k a) (.int k b) = some (a == b) := eqV_int Try.underlying40 d k a b
@[go_sem] theorem sz45 : szOf Try.prog 45 = some 1 := by kernel_rfl
@[go_sem] theorem ag45 : aggT Try.prog 45 = false := by kernel_rfl
@[go_sem] theorem by45 : Try.prog.bytesOf 45 = 24 := by kernel_rfl
@[go_sem] theorem un45 : (Try.prog.underlying 45).isNone = false := by kernel_rfl
@[go_sem] theorem zo45 : zerosOf Try.prog 45 = some [.nilS] := by kernel_rfl
attribute [go_sem] Try.underlying45
@[go_sem] theorem el45 : elemT Try.prog 45 = some 3 := by kernel_rfl
@[go_sem] theorem ap45 (B : List Box) (s x : CV) : appendC Try.prog 45 B s x = appendK Try.prog 3 1 B s x := appendC_eq (by kernel_rfl) (by kernel_rfl) (by kernel_rfl) B s x
@[go_sem] theorem sz48 : szOf Try.prog 48 = some 1 := by kernel_rfl
@[go_sem] theorem ag48 : aggT Try.prog 48 = false := by kernel_rfl
@[go_sem] theorem by48 : Try.prog.bytesOf 48 = 4 := by kernel_rfl
@[go_sem] theorem un48 : (Try.prog.underlying 48).isNone = false := by kernel_rfl
@[go_sem] theorem zo48 : zerosOf Try.prog 48 = some [.int .u32 0] := by kernel_rfl
attribute [go_sem] Try.underlying48
@[go_sem] theorem eql48 (d : Nat) (k : IntKind) (a b : Int) : eqV Try.prog (d + 1) 48 (.int k a) (.int k b) = some (a == b) := eqV_int Try.underlying48 d k a b
@[go_sem] theorem sz53 : szOf Try.prog 53 = some 32 := by kernel_rfl
@[go_sem] theorem ag53 : aggT Try.prog 53 = true := by kernel_rfl
@[go_sem] theorem by53 : Try.prog.bytesOf 53 = 32 := by kernel_rfl
@[go_sem] theorem un53 : (Try.prog.underlying 53).isNone = false := by kernel_rfl
@[go_sem] theorem zo53 : zerosOf Try.prog 53 = some [.int .u8 0, .int .u8 0, .int .u8 0, .int .u8 0, .int .u8 0, .int .u8 0, .int .u8 0, .int .u8 0, .int .u8 0, .int .u8 0, .int .u8 0, .int .u8 0, .int .u8 0, .int .u8 0, .int .u8 0, .int .u8 0, .int .u8 0, .int .u8 0, .int .u8 0, .int .u8 0, .int .u8 0, .int .u8 0, .int .u8 0, .int .u8 0, .int .u8 0, .int .u8 0, .int .u8 0, .int .u8 0, .int .u8 0, .int .u8 0, .int .u8 0, .int .u8 0] := by kernel_rfl
attribute [go_sem] Try.underlying53
@[go_sem] theorem gd53 : Try.prog.eqGuardType Try.prog.depth 53 = false := by kernel_rfl
@[go_sem] theorem eqb53 (l1 l2 : List UInt8) (h1 : l1.length = 32) (h2 : l2.length = 32) (d : Nat) : eqV Try.prog (d + 2) 53 (.agg (l1.map byteC)) (.agg (l2.map byteC)) = some (l1 == l2) := eqV_bytes Try.underlying53 Try.underlying5 (by kernel_rfl) (by kernel_rfl) l1 l2 h1 h2
@[go_sem] theorem eqz53 (l1 : List UInt8) (h1 : l1.length = 32) (d : Nat) : eqV Try.prog (d + 2) 53 (.agg (l1.map byteC)) (.agg [.int .u8 0, .int .u8 0, .int .u8 0, .int .u8 0, .int .u8 0, .int .u8 0, .int .u8 0, .int .u8 0, .int .u8 0, .int .u8 0, .int .u8 0, .int .u8 0, .int .u8 0, .int .u8 0, .int .u8 0, .int .u8 0, .int .u8 0, .int .u8 0, .int .u8 0, .int .u8 0, .int .u8 0, .int .u8 0, .int .u8 0, .int .u8 0, .int .u8 0, .int .u8 0, .int .u8 0, .int .u8 0, .int .u8 0, .int .u8 0, .int .u8 0, .int .u8 0]) = some (l1 == List.replicate 32 0) := eqb53 l1 (List.replicate 32 0) h1 rfl d
@[go_sem] theorem sz54 : szOf Try.prog 54 = some 32 := by kernel_rfl
@[go_sem] theorem ag54 : aggT Try.prog 54 = true := by kernel_rfl
@[go_sem] theorem by54 : Try.prog.bytesOf 54 = 32 := by kernel_rfl
@[go_sem] theorem un54 : (Try.prog.underlying 54).isNone = false := by kernel_rfl
@[go_sem] theorem zo54 : zerosOf Try.prog 54 = some [.int .u8 0, .int .u8 0, .int .u8 0, .int .u8 0, .int .u8 0, .int .u8 0, .int .u8 0, .int .u8 0, .int .u8 0, .int .u8 0, .int .u8 0, .int .u8 0, .int .u8 0, .int .u8 0, .int .u8 0, .int .u8 0, .int .u8 0, .int .u8 0, .int .u8 0, .int .u8 0, .int .u8 0, .int .u8 0, .int .u8 0, .int .u8 0, .int .u8 0, .int .u8 0, .int .u8 0, .int .u8 0, .int .u8 0, .int .u8 0, .int .u8 0, .int .u8 0] := by kernel_rfl
attribute [go_sem] Try.underlying54
@[go_sem] theorem gd54 : Try.prog.eqGuardType Try.prog.depth 54 = false := by kernel_rfl
@[go_sem] theorem eqb54 (l1 l2 : List UInt8) (h1 : l1.length = 32) (h2 : l2.length = 32) (d : Nat) : eqV Try.prog (d + 2) 54 (.agg (l1.map byteC)) (.agg (l2.map byteC)) = some (l1 == l2) := eqV_bytes Try.underlying54 Try.underlying5 (by kernel_rfl) (by kernel_rfl) l1 l2 h1 h2
@[go_sem] theorem eqz54 (l1 : List UInt8) (h1 : l1.length = 32) (d : Nat) : eqV Try.prog (d + 2) 54 (.agg (l1.map byteC)) (.agg [.int .u8 0, .int .u8 0, .int .u8 0, .int .u8 0, .int .u8 0, .int .u8 0, .int .u8 0, .int .u8 0, .int .u8 0, .int .u8 0, .int .u8 0, .int .u8 0, .int .u8 0, .int .u8 0, .int .u8 0, .int .u8 0, .int .u8 0, .int .u8 0, .int .u8 0, .int .u8 0, .int .u8 0, .int .u8 0, .int .u8 0, .int .u8 0, .int .u8 0, .int .u8 0, .int .u8 0, .int .u8 0, .int .u8 0, .int .u8 0, .int .u8 0, .int .u8 0]) = some (l1 == List.replicate 32 0) := eqb54 l1 (List.replicate 32 0) h1 rfl d
@[go_sem] theorem sz55 : szOf Try.prog 55 = some 1 := by kernel_rfl
@[go_sem] theorem ag55 : aggT Try.prog 55 = false := by kernel_rfl
@[go_sem] theorem by55 : Try.prog.bytesOf 55 = 24 := by kernel_rfl
@[go_sem] theorem un55 : (Try.prog.underlying 55).isNone = false := by kernel_rfl
@[go_sem] theorem zo55 : zerosOf Try.prog 55 = some [.nilS] := by kernel_rfl
attribute [go_sem] Try.underlying55
@[go_sem] theorem el55 : elemT Try.prog 55 = some 76 := by kernel_rfl
@[go_sem] theorem ap55 (B : List Box) (s x : CV) : appendC Try.prog 55 B s x = appendK Try.prog 76 34 B s x := appendC_eq (by kernel_rfl) (by kernel_rfl) (by kernel_rfl) B s x
@[go_sem] theorem sz59 : szOf Try.prog 59 = some 1 := by kernel_rfl
@[go_sem] theorem ag59 : aggT Try.prog 59 = false := by kernel_rfl
@[go_sem] theorem by59 : Try.prog.bytesOf 59 = 24 := by kernel_rfl
@[go_sem] theorem un59 : (Try.prog.underlying 59).isNone = false := by kernel_rfl
@[go_sem] theorem zo59 : zerosOf Try.prog 59 = some [.nilS] := by kernel_rfl
attribute [go_sem] Try.underlying59
@[go_sem] theorem el59 : elemT Try.prog 59 = some 62 := by kernel_rfl
@[go_sem] theorem ap59 (B : List Box) (s x : CV) : appendC Try.prog 59 B s x = appendK Try.prog 62 34 B s x := appendC_eq (by kernel_rfl) (by kernel_rfl) (by kernel_rfl) B s x
@[go_sem] theorem sz61 : szOf Try.prog 61 = some 34 := by kernel_rfl
@[go_sem] theorem ag61 : aggT Try.prog 61 = true := by kernel_rfl
@[go_sem] theorem by61 : Try.prog.bytesOf 61 = 48 := by kernel_rfl
@[go_sem] theorem un61 : (Try.prog.underlying 61).isNone = false := by kernel_rfl
@[go_sem] theorem zo61 : zerosOf Try.prog 61 = some [.int .i64 0, .int .u8 0, .int .u8 0, .int .u8 0, .int .u8 0, .int .u8 0, .int .u8 0, .int .u8 0, .int .u8 0, .int .u8 0, .int .u8 0, .int .u8 0, .int .u8 0, .int .u8 0, .int .u8 0, .int .u8 0, .int .u8 0, .int .u8 0, .int .u8 0, .int .u8 0, .int .u8 0, .int .u8 0, .int .u8 0, .int .u8 0, .int .u8 0, .int .u8 0, .int .u8 0, .int .u8 0, .int .u8 0, .int .u8 0, .int .u8 0, .int .u8 0, .int .u8 0, .int .i64 0] := by kernel_rfl
attribute [go_sem] Try.underlying61
@[go_sem] theorem gd61 : Try.prog.eqGuardType Try.prog.depth 61 = false := by kernel_rfl
@[go_sem] theorem st61 : Try.prog.stoodInHeld 61 = false := by kernel_rfl
@[go_sem] theorem eqs61 (d : Nat) (xs ys : List CV) : eqV Try.prog (d + 1) 61 (.agg xs) (.agg ys) = eqF Try.prog d xs ys (match Try.prog.underlying 61 with | some (.struct fs) => fs.toList | _ => []) := by rw [Try.underlying61]; exact eqV_struct Try.underlying61 st61 d xs ys
@[go_sem] theorem sz62 : szOf Try.prog 62 = some 34 := by kernel_rfl
@[go_sem] theorem ag62 : aggT Try.prog 62 = true := by kernel_rfl
@[go_sem] theorem by62 : Try.prog.bytesOf 62 = 48 := by kernel_rfl
@[go_sem] theorem un62 : (Try.prog.underlying 62).isNone = false := by kernel_rfl
@[go_sem] theorem zo62 : zerosOf Try.prog 62 = some [.int .i64 0, .int .u8 0, .int .u8 0, .int .u8 0, .int .u8 0, .int .u8 0, .int .u8 0, .int .u8 0, .int .u8 0, .int .u8 0, .int .u8 0, .int .u8 0, .int .u8 0, .int .u8 0, .int .u8 0, .int .u8 0, .int .u8 0, .int .u8 0, .int .u8 0, .int .u8 0, .int .u8 0, .int .u8 0, .int .u8 0, .int .u8 0, .int .u8 0, .int .u8 0, .int .u8 0, .int .u8 0, .int .u8 0, .int .u8 0, .int .u8 0, .int .u8 0, .int .u8 0, .int .i64 0] := by kernel_rfl
attribute [go_sem] Try.underlying62
@[go_sem] theorem gd62 : Try.prog.eqGuardType Try.prog.depth 62 = false := by kernel_rfl
@[go_sem] theorem st62 : Try.prog.stoodInHeld 62 = false := by kernel_rfl
@[go_sem] theorem eqs62 (d : Nat) (xs ys : List CV) : eqV Try.prog (d + 1) 62 (.agg xs) (.agg ys) = eqF Try.prog d xs ys (match Try.prog.underlying 62 with | some (.struct fs) => fs.toList | _ => []) := by rw [Try.underlying62]; exact eqV_struct Try.underlying62 st62 d xs ys
@[go_sem] theorem sz73 : szOf Try.prog 73 = some 1 := by kernel_rfl
@[go_sem] theorem ag73 : aggT Try.prog 73 = false := by kernel_rfl
@[go_sem] theorem by73 : Try.prog.bytesOf 73 = 24 := by kernel_rfl
@[go_sem] theorem un73 : (Try.prog.underlying 73).isNone = false := by kernel_rfl
@[go_sem] theorem zo73 : zerosOf Try.prog 73 = some [.nilS] := by kernel_rfl
attribute [go_sem] Try.underlying73
@[go_sem] theorem el73 : elemT Try.prog 73 = some 55 := by kernel_rfl
@[go_sem] theorem ap73 (B : List Box) (s x : CV) : appendC Try.prog 73 B s x = appendK Try.prog 55 1 B s x := appendC_eq (by kernel_rfl) (by kernel_rfl) (by kernel_rfl) B s x
@[go_sem] theorem sz74 : szOf Try.prog 74 = some 1 := by kernel_rfl
@[go_sem] theorem ag74 : aggT Try.prog 74 = false := by kernel_rfl
@[go_sem] theorem by74 : Try.prog.bytesOf 74 = 24 := by kernel_rfl
@[go_sem] theorem un74 : (Try.prog.underlying 74).isNone = false := by kernel_rfl
@[go_sem] theorem zo74 : zerosOf Try.prog 74 = some [.nilS] := by kernel_rfl
attribute [go_sem] Try.underlying74
@[go_sem] theorem el74 : elemT Try.prog 74 = some 48 := by kernel_rfl
@[go_sem] theorem ap74 (B : List Box) (s x : CV) : appendC Try.prog 74 B s x = appendK Try.prog 48 1 B s x := appendC_eq (by kernel_rfl) (by kernel_rfl) (by kernel_rfl) B s x
@[go_sem] theorem sz75 : szOf Try.prog 75 = some 34 := by kernel_rfl
@[go_sem] theorem ag75 : aggT Try.prog 75 = true := by kernel_rfl
@[go_sem] theorem by75 : Try.prog.bytesOf 75 = 40 := by kernel_rfl
@[go_sem] theorem un75 : (Try.prog.underlying 75).isNone = false := by kernel_rfl
@[go_sem] theorem zo75 : zerosOf Try.prog 75 = some [.int .u32 0, .int .u8 0, .int .u8 0, .int .u8 0, .int .u8 0, .int .u8 0, .int .u8 0, .int .u8 0, .int .u8 0, .int .u8 0, .int .u8 0, .int .u8 0, .int .u8 0, .int .u8 0, .int .u8 0, .int .u8 0, .int .u8 0, .int .u8 0, .int .u8 0, .int .u8 0, .int .u8 0, .int .u8 0, .int .u8 0, .int .u8 0, .int .u8 0, .int .u8 0, .int .u8 0, .int .u8 0, .int .u8 0, .int .u8 0, .int .u8 0, .int .u8 0, .int .u8 0, .bool false] := by kernel_rfl
attribute [go_sem] Try.underlying75
@[go_sem] theorem gd75 : Try.prog.eqGuardType Try.prog.depth 75 = false := by kernel_rfl
@[go_sem] theorem st75 : Try.prog.stoodInHeld 75 = false := by kernel_rfl
@[go_sem] theorem eqs75 (d : Nat) (xs ys : List CV) : eqV Try.prog (d + 1) 75 (.agg xs) (.agg ys) = eqF Try.prog d xs ys (match Try.prog.underlying 75 with | some (.struct fs) => fs.toList | _ => []) := by rw [Try.underlying75]; exact eqV_struct Try.underlying75 st75 d xs ys
@[go_sem] theorem sz76 : szOf Try.prog 76 = some 34 := by kernel_rfl
@[go_sem] theorem ag76 : aggT Try.prog 76 = true := by kernel_rfl
@[go_sem] theorem by76 : Try.prog.bytesOf 76 = 40 := by kernel_rfl
@[go_sem] theorem un76 : (Try.prog.underlying 76).isNone = false := by kernel_rfl
@[go_sem] theorem zo76 : zerosOf Try.prog 76 = some [.int .u32 0, .int .u8 0, .int .u8 0, .int .u8 0, .int .u8 0, .int .u8 0, .int .u8 0, .int .u8 0, .int .u8 0, .int .u8 0, .int .u8 0, .int .u8 0, .int .u8 0, .int .u8 0, .int .u8 0, .int .u8 0, .int .u8 0, .int .u8 0, .int .u8 0, .int .u8 0, .int .u8 0, .int .u8 0, .int .u8 0, .int .u8 0, .int .u8 0, .int .u8 0, .int .u8 0, .int .u8 0, .int .u8 0, .int .u8 0, .int .u8 0, .int .u8 0, .int .u8 0, .bool false] := by kernel_rfl
attribute [go_sem] Try.underlying76
@[go_sem] theorem gd76 : Try.prog.eqGuardType Try.prog.depth 76 = false := by kernel_rfl
@[go_sem] theorem st76 : Try.prog.stoodInHeld 76 = false := by kernel_rfl
@[go_sem] theorem eqs76 (d : Nat) (xs ys : List CV) : eqV Try.prog (d + 1) 76 (.agg xs) (.agg ys) = eqF Try.prog d xs ys (match Try.prog.underlying 76 with | some (.struct fs) => fs.toList | _ => []) := by rw [Try.underlying76]; exact eqV_struct Try.underlying76 st76 d xs ys
@[go_sem] theorem sz85 : szOf Try.prog 85 = some 1 := by kernel_rfl
@[go_sem] theorem ag85 : aggT Try.prog 85 = false := by kernel_rfl
@[go_sem] theorem by85 : Try.prog.bytesOf 85 = 24 := by kernel_rfl
@[go_sem] theorem un85 : (Try.prog.underlying 85).isNone = false := by kernel_rfl
@[go_sem] theorem zo85 : zerosOf Try.prog 85 = some [.nilS] := by kernel_rfl
attribute [go_sem] Try.underlying85
@[go_sem] theorem el85 : elemT Try.prog 85 = some 59 := by kernel_rfl
@[go_sem] theorem ap85 (B : List Box) (s x : CV) : appendC Try.prog 85 B s x = appendK Try.prog 59 1 B s x := appendC_eq (by kernel_rfl) (by kernel_rfl) (by kernel_rfl) B s x
@[go_sem] theorem sz87 : szOf Try.prog 87 = some 1 := by kernel_rfl
@[go_sem] theorem ag87 : aggT Try.prog 87 = false := by kernel_rfl
@[go_sem] theorem by87 : Try.prog.bytesOf 87 = 24 := by kernel_rfl
@[go_sem] theorem un87 : (Try.prog.underlying 87).isNone = false := by kernel_rfl
@[go_sem] theorem zo87 : zerosOf Try.prog 87 = some [.nilS] := by kernel_rfl
attribute [go_sem] Try.underlying87
@[go_sem] theorem el87 : elemT Try.prog 87 = some 2 := by kernel_rfl
@[go_sem] theorem ap87 (B : List Box) (s x : CV) : appendC Try.prog 87 B s x = appendK Try.prog 2 1 B s x := appendC_eq (by kernel_rfl) (by kernel_rfl) (by kernel_rfl) B s x
@[go_sem] theorem sz90 : szOf Try.prog 90 = some 1 := by kernel_rfl
@[go_sem] theorem ag90 : aggT Try.prog 90 = false := by kernel_rfl
@[go_sem] theorem by90 : Try.prog.bytesOf 90 = 8 := by kernel_rfl
@[go_sem] theorem un90 : (Try.prog.underlying 90).isNone = false := by kernel_rfl
@[go_sem] theorem zo90 : zerosOf Try.prog 90 = some [.nilP] := by kernel_rfl
attribute [go_sem] Try.underlying90
@[go_sem] theorem sz94 : szOf Try.prog 94 = some 1 := by kernel_rfl
@[go_sem] theorem ag94 : aggT Try.prog 94 = false := by kernel_rfl
@[go_sem] theorem by94 : Try.prog.bytesOf 94 = 8 := by kernel_rfl
@[go_sem] theorem un94 : (Try.prog.underlying 94).isNone = false := by kernel_rfl
@[go_sem] theorem zo94 : zerosOf Try.prog 94 = some [.nilP] := by kernel_rfl
attribute [go_sem] Try.underlying94
@[go_sem] theorem sz96 : szOf Try.prog 96 = some 2 := by kernel_rfl
@[go_sem] theorem ag96 : aggT Try.prog 96 = true := by kernel_rfl
@[go_sem] theorem by96 : Try.prog.bytesOf 96 = 32 := by kernel_rfl
@[go_sem] theorem un96 : (Try.prog.underlying 96).isNone = false := by kernel_rfl
@[go_sem] theorem zo96 : zerosOf Try.prog 96 = some [.nilS, .bool false] := by kernel_rfl
attribute [go_sem] Try.underlying96
@[go_sem] theorem gd96 : Try.prog.eqGuardType Try.prog.depth 96 = false := by kernel_rfl
@[go_sem] theorem st96 : Try.prog.stoodInHeld 96 = false := by kernel_rfl
@[go_sem] theorem eqs96 (d : Nat) (xs ys : List CV) : eqV Try.prog (d + 1) 96 (.agg xs) (.agg ys) = eqF Try.prog d xs ys (match Try.prog.underlying 96 with | some (.struct fs) => fs.toList | _ => []) := by rw [Try.underlying96]; exact eqV_struct Try.underlying96 st96 d xs ys
@[go_sem] theorem sz97 : szOf Try.prog 97 = some 2 := by kernel_rfl
@[go_sem] theorem ag97 : aggT Try.prog 97 = true := by kernel_rfl
@[go_sem] theorem by97 : Try.prog.bytesOf 97 = 32 := by kernel_rfl
@[go_sem] theorem un97 : (Try.prog.underlying 97).isNone = false := by kernel_rfl
@[go_sem] theorem zo97 : zerosOf Try.prog 97 = some [.nilS, .bool false] := by kernel_rfl
attribute [go_sem] Try.underlying97
@[go_sem] theorem gd97 : Try.prog.eqGuardType Try.prog.depth 97 = false := by kernel_rfl
@[go_sem] theorem st97 : Try.prog.stoodInHeld 97 = false := by kernel_rfl
@[go_sem] theorem eqs97 (d : Nat) (xs ys : List CV) : eqV Try.prog (d + 1) 97 (.agg xs) (.agg ys) = eqF Try.prog d xs ys (match Try.prog.underlying 97 with | some (.struct fs) => fs.toList | _ => []) := by rw [Try.underlying97]; exact eqV_struct Try.underlying97 st97 d xs ys
@[go_sem] theorem sz102 : szOf Try.prog 102 = some 1 := by kernel_rfl
@[go_sem] theorem ag102 : aggT Try.prog 102 = false := by kernel_rfl
@[go_sem] theorem by102 : Try.prog.bytesOf 102 = 8 := by kernel_rfl
@[go_sem] theorem un102 : (Try.prog.underlying 102).isNone = false := by kernel_rfl
@[go_sem] theorem zo102 : zerosOf Try.prog 102 = some [.int .u64 0] := by kernel_rfl
attribute [go_sem] Try.underlying102
@[go_sem] theorem eql102 (d : Nat) (k : IntKind) (a b : Int) : eqV Try.prog (d + 1) 102 (.int k a) (.int k b) = some (a == b) := eqV_int Try.underlying102 d k a b
@[go_sem] theorem sz106 : szOf Try.prog 106 = some 1 := by kernel_rfl
@[go_sem] theorem ag106 : aggT Try.prog 106 = false := by kernel_rfl
@[go_sem] theorem by106 : Try.prog.bytesOf 106 = 8 := by kernel_rfl
@[go_sem] theorem un106 : (Try.prog.underlying 106).isNone = false := by kernel_rfl
@[go_sem] theorem zo106 : zerosOf Try.prog 106 = some [.int .u64 0] := by kernel_rfl
attribute [go_sem] Try.underlying106
@[go_sem] theorem eql106 (d : Nat) (k : IntKind) (a b : Int) : eqV Try.prog (d + 1) 106 (.int k a) (.int k b) = some (a == b) := eqV_int Try.underlying106 d k a b
@[go_sem] theorem sz117 : szOf Try.prog 117 = some 34 := by kernel_rfl
@[go_sem] theorem ag117 : aggT Try.prog 117 = true := by kernel_rfl
@[go_sem] theorem by117 : Try.prog.bytesOf 117 = 48 := by kernel_rfl
@[go_sem] theorem un117 : (Try.prog.underlying 117).isNone = false := by kernel_rfl
@[go_sem] theorem zo117 : zerosOf Try.prog 117 = some [.int .i64 0, .int .u8 0, .int .u8 0, .int .u8 0, .int .u8 0, .int .u8 0, .int .u8 0, .int .u8 0, .int .u8 0, .int .u8 0, .int .u8 0, .int .u8 0, .int .u8 0, .int .u8 0, .int .u8 0, .int .u8 0, .int .u8 0, .int .u8 0, .int .u8 0, .int .u8 0, .int .u8 0, .int .u8 0, .int .u8 0, .int .u8 0, .int .u8 0, .int .u8 0, .int .u8 0, .int .u8 0, .int .u8 0, .int .u8 0, .int .u8 0, .int .u8 0, .int .u8 0, .int .i64 0] := by kernel_rfl
attribute [go_sem] Try.underlying117
@[go_sem] theorem gd117 : Try.prog.eqGuardType Try.prog.depth 117 = false := by kernel_rfl
@[go_sem] theorem st117 : Try.prog.stoodInHeld 117 = false := by kernel_rfl
@[go_sem] theorem eqs117 (d : Nat) (xs ys : List CV) : eqV Try.prog (d + 1) 117 (.agg xs) (.agg ys) = eqF Try.prog d xs ys (match Try.prog.underlying 117 with | some (.struct fs) => fs.toList | _ => []) := by rw [Try.underlying117]; exact eqV_struct Try.underlying117 st117 d xs ys
@[go_sem] theorem sz118 : szOf Try.prog 118 = some 34 := by kernel_rfl
@[go_sem] theorem ag118 : aggT Try.prog 118 = true := by kernel_rfl
@[go_sem] theorem by118 : Try.prog.bytesOf 118 = 48 := by kernel_rfl
@[go_sem] theorem un118 : (Try.prog.underlying 118).isNone = false := by kernel_rfl
@[go_sem] theorem zo118 : zerosOf Try.prog 118 = some [.int .i64 0, .int .u8 0, .int .u8 0, .int .u8 0, .int .u8 0, .int .u8 0, .int .u8 0, .int .u8 0, .int .u8 0, .int .u8 0, .int .u8 0, .int .u8 0, .int .u8 0, .int .u8 0, .int .u8 0, .int .u8 0, .int .u8 0, .int .u8 0, .int .u8 0, .int .u8 0, .int .u8 0, .int .u8 0, .int .u8 0, .int .u8 0, .int .u8 0, .int .u8 0, .int .u8 0, .int .u8 0, .int .u8 0, .int .u8 0, .int .u8 0, .int .u8 0, .int .u8 0, .int .i64 0] := by kernel_rfl
attribute [go_sem] Try.underlying118
@[go_sem] theorem gd118 : Try.prog.eqGuardType Try.prog.depth 118 = false := by kernel_rfl
@[go_sem] theorem st118 : Try.prog.stoodInHeld 118 = false := by kernel_rfl
@[go_sem] theorem eqs118 (d : Nat) (xs ys : List CV) : eqV Try.prog (d + 1) 118 (.agg xs) (.agg ys) = eqF Try.prog d xs ys (match Try.prog.underlying 118 with | some (.struct fs) => fs.toList | _ => []) := by rw [Try.underlying118]; exact eqV_struct Try.underlying118 st118 d xs ys
@[go_sem] theorem sz124 : szOf Try.prog 124 = some 2 := by kernel_rfl
@[go_sem] theorem ag124 : aggT Try.prog 124 = true := by kernel_rfl
@[go_sem] theorem by124 : Try.prog.bytesOf 124 = 32 := by kernel_rfl
@[go_sem] theorem un124 : (Try.prog.underlying 124).isNone = false := by kernel_rfl
@[go_sem] theorem zo124 : zerosOf Try.prog 124 = some [.nilS, .int .i64 0] := by kernel_rfl
attribute [go_sem] Try.underlying124
@[go_sem] theorem gd124 : Try.prog.eqGuardType Try.prog.depth 124 = false := by kernel_rfl
@[go_sem] theorem st124 : Try.prog.stoodInHeld 124 = false := by kernel_rfl
@[go_sem] theorem eqs124 (d : Nat) (xs ys : List CV) : eqV Try.prog (d + 1) 124 (.agg xs) (.agg ys) = eqF Try.prog d xs ys (match Try.prog.underlying 124 with | some (.struct fs) => fs.toList | _ => []) := by rw [Try.underlying124]; exact eqV_struct Try.underlying124 st124 d xs ys
@[go_sem] theorem sz125 : szOf Try.prog 125 = some 2 := by kernel_rfl
@[go_sem] theorem ag125 : aggT Try.prog 125 = true := by kernel_rfl
@[go_sem] theorem by125 : Try.prog.bytesOf 125 = 32 := by kernel_rfl
@[go_sem] theorem un125 : (Try.prog.underlying 125).isNone = false := by kernel_rfl
@[go_sem] theorem zo125 : zerosOf Try.prog 125 = some [.nilS, .int .i64 0] := by kernel_rfl
attribute [go_sem] Try.underlying125
@[go_sem] theorem gd125 : Try.prog.eqGuardType Try.prog.depth 125 = false := by kernel_rfl
@[go_sem] theorem st125 : Try.prog.stoodInHeld 125 = false := by kernel_rfl
@[go_sem] theorem eqs125 (d : Nat) (xs ys : List CV) : eqV Try.prog (d + 1) 125 (.agg xs) (.agg ys) = eqF Try.prog d xs ys (match Try.prog.underlying 125 with | some (.struct fs) => fs.toList | _ => []) := by rw [Try.underlying125]; exact eqV_struct Try.underlying125 st125 d xs ys
@[go_sem] theorem sz133 : szOf Try.prog 133 = some 4 := by kernel_rfl
@[go_sem] theorem ag133 : aggT Try.prog 133 = true := by kernel_rfl
@[go_sem] theorem by133 : Try.prog.bytesOf 133 = 40 := by kernel_rfl
@[go_sem] theorem un133 : (Try.prog.underlying 133).isNone = false := by kernel_rfl
@[go_sem] theorem zo133 : zerosOf Try.prog 133 = some [.nilP, .nilP, .nilP, .str []] := by kernel_rfl
attribute [go_sem] Try.underlying133
@[go_sem] theorem gd133 : Try.prog.eqGuardType Try.prog.depth 133 = false := by kernel_rfl
@[go_sem] theorem sz134 : szOf Try.prog 134 = some 4 := by kernel_rfl
@[go_sem] theorem ag134 : aggT Try.prog 134 = true := by kernel_rfl
@[go_sem] theorem by134 : Try.prog.bytesOf 134 = 40 := by kernel_rfl
@[go_sem] theorem un134 : (Try.prog.underlying 134).isNone = false := by kernel_rfl
@[go_sem] theorem zo134 : zerosOf Try.prog 134 = some [.nilP, .nilP, .nilP, .str []] := by kernel_rfl
attribute [go_sem] Try.underlying134
@[go_sem] theorem gd134 : Try.prog.eqGuardType Try.prog.depth 134 = false := by kernel_rfl
@[go_sem] theorem sz135 : szOf Try.prog 135 = some 0 := by kernel_rfl
@[go_sem] theorem ag135 : aggT Try.prog 135 = true := by kernel_rfl
@[go_sem] theorem by135 : Try.prog.bytesOf 135 = 0 := by kernel_rfl
@[go_sem] theorem un135 : (Try.prog.underlying 135).isNone = false := by kernel_rfl
@[go_sem] theorem zo135 : zerosOf Try.prog 135 = some [] := by kernel_rfl
attribute [go_sem] Try.underlying135
@[go_sem] theorem gd135 : Try.prog.eqGuardType Try.prog.depth 135 = false := by kernel_rfl
@[go_sem] theorem sz136 : szOf Try.prog 136 = some 0 := by kernel_rfl
@[go_sem] theorem ag136 : aggT Try.prog 136 = true := by kernel_rfl
@[go_sem] theorem by136 : Try.prog.bytesOf 136 = 0 := by kernel_rfl
@[go_sem] theorem un136 : (Try.prog.underlying 136).isNone = false := by kernel_rfl
@[go_sem] theorem zo136 : zerosOf Try.prog 136 = some [] := by kernel_rfl
attribute [go_sem] Try.underlying136
@[go_sem] theorem gd136 : Try.prog.eqGuardType Try.prog.depth 136 = false := by kernel_rfl
@[go_sem] theorem sz137 : szOf Try.prog 137 = some 0 := by kernel_rfl
@[go_sem] theorem ag137 : aggT Try.prog 137 = true := by kernel_rfl
@[go_sem] theorem by137 : Try.prog.bytesOf 137 = 0 := by kernel_rfl
@[go_sem] theorem un137 : (Try.prog.underlying 137).isNone = false := by kernel_rfl
@[go_sem] theorem zo137 : zerosOf Try.prog 137 = some [] := by kernel_rfl
attribute [go_sem] Try.underlying137
@[go_sem] theorem gd137 : Try.prog.eqGuardType Try.prog.depth 137 = false := by kernel_rfl
@[go_sem] theorem sz139 : szOf Try.prog 139 = some 1 := by kernel_rfl
@[go_sem] theorem ag139 : aggT Try.prog 139 = false := by kernel_rfl
@[go_sem] theorem by139 : Try.prog.bytesOf 139 = 1 := by kernel_rfl
@[go_sem] theorem un139 : (Try.prog.underlying 139).isNone = false := by kernel_rfl
@[go_sem] theorem zo139 : zerosOf Try.prog 139 = some [.int .u8 0] := by kernel_rfl
attribute [go_sem] Try.underlying139
@[go_sem] theorem eql139 (d : Nat) (k : IntKind) (a b : Int) : eqV Try.prog (d + 1) 139 (.int k a) (.int k b) = some (a == b) := eqV_int Try.underlying139 d k a b
@[go_sem] theorem sz140 : szOf Try.prog 140 = some 1 := by kernel_rfl
@[go_sem] theorem ag140 : aggT Try.prog 140 = false := by kernel_rfl
@[go_sem] theorem by140 : Try.prog.bytesOf 140 = 1 := by kernel_rfl
@[go_sem] theorem un140 : (Try.prog.underlying 140).isNone = false := by kernel_rfl
@[go_sem] theorem zo140 : zerosOf Try.prog 140 = some [.int .u8 0] := by kernel_rfl
attribute [go_sem] Try.underlying140
@[go_sem] theorem eql140 (d : Nat) (k : IntKind) (a b : Int) : eqV Try.prog (d + 1) 140 (.int k a) (.int k b) = some (a == b) := eqV_int Try.underlying140 d k a b
@[go_sem] theorem sz142 : szOf Try.prog 142 = some 1 := by kernel_rfl
@[go_sem] theorem ag142 : aggT Try.prog 142 = false := by kernel_rfl
@[go_sem] theorem by142 : Try.prog.bytesOf 142 = 8 := by kernel_rfl
@[go_sem] theorem un142 : (Try.prog.underlying 142).isNone = false := by kernel_rfl
@[go_sem] theorem zo142 : zerosOf Try.prog 142 = some [.nilP] := by kernel_rfl
attribute [go_sem] Try.underlying142
@[go_sem] theorem sz143 : szOf Try.prog 143 = some 1 := by kernel_rfl
@[go_sem] theorem ag143 : aggT Try.prog 143 = false := by kernel_rfl
@[go_sem] theorem by143 : Try.prog.bytesOf 143 = 4 := by kernel_rfl
@[go_sem] theorem un143 : (Try.prog.underlying 143).isNone = false := by kernel_rfl
@[go_sem] theorem zo143 : zerosOf Try.prog 143 = some [.int .i32 0] := by kernel_rfl
attribute [go_sem] Try.underlying143
@[go_sem] theorem eql143 (d : Nat) (k : IntKind) (a b : Int) : eqV Try.prog (d + 1) 143 (.int k a) (.int k b) = some (a == b) := eqV_int Try.underlying143 d k a b
@[go_sem] theorem sz144 : szOf Try.prog 144 = some 1 := by kernel_rfl
@[go_sem] theorem ag144 : aggT Try.prog 144 = false := by kernel_rfl
@[go_sem] theorem by144 : Try.prog.bytesOf 144 = 4 := by kernel_rfl
@[go_sem] theorem un144 : (Try.prog.underlying 144).isNone = false := by kernel_rfl
@[go_sem] theorem zo144 : zerosOf Try.prog 144 = some [.int .i32 0] := by kernel_rfl
attribute [go_sem] Try.underlying144
@[go_sem] theorem eql144 (d : Nat) (k : IntKind) (a b : Int) : eqV Try.prog (d + 1) 144 (.int k a) (.int k b) = some (a == b) := eqV_int Try.underlying144 d k a b
@[go_sem] theorem sz145 : szOf Try.prog 145 = some 11 := by kernel_rfl
@[go_sem] theorem ag145 : aggT Try.prog 145 = true := by kernel_rfl
@[go_sem] theorem by145 : Try.prog.bytesOf 145 = 48 := by kernel_rfl
@[go_sem] theorem un145 : (Try.prog.underlying 145).isNone = false := by kernel_rfl
@[go_sem] theorem zo145 : zerosOf Try.prog 145 = some [.int .u64 0, .int .u64 0, .int .u32 0, .int .u8 0, .int .u8 0, .int .u8 0, .int .u8 0, .nilF, .nilP, .int .i32 0, .int .i32 0] := by kernel_rfl
attribute [go_sem] Try.underlying145
@[go_sem] theorem gd145 : Try.prog.eqGuardType Try.prog.depth 145 = false := by kernel_rfl
@[go_sem] theorem sz146 : szOf Try.prog 146 = some 11 := by kernel_rfl
@[go_sem] theorem ag146 : aggT Try.prog 146 = true := by kernel_rfl
@[go_sem] theorem by146 : Try.prog.bytesOf 146 = 48 := by kernel_rfl
@[go_sem] theorem un146 : (Try.prog.underlying 146).isNone = false := by kernel_rfl
@[go_sem] theorem zo146 : zerosOf Try.prog 146 = some [.int .u64 0, .int .u64 0, .int .u32 0, .int .u8 0, .int .u8 0, .int .u8 0, .int .u8 0, .nilF, .nilP, .int .i32 0, .int .i32 0] := by kernel_rfl
attribute [go_sem] Try.underlying146
@[go_sem] theorem gd146 : Try.prog.eqGuardType Try.prog.depth 146 = false := by kernel_rfl
@[go_sem] theorem sz147 : szOf Try.prog 147 = some 1 := by kernel_rfl
@[go_sem] theorem ag147 : aggT Try.prog 147 = false := by kernel_rfl
@[go_sem] theorem by147 : Try.prog.bytesOf 147 = 8 := by kernel_rfl
@[go_sem] theorem un147 : (Try.prog.underlying 147).isNone = false := by kernel_rfl
@[go_sem] theorem zo147 : zerosOf Try.prog 147 = some [.nilP] := by kernel_rfl
attribute [go_sem] Try.underlying147
-- 0 main.main
-- 1 gosem.cut
-- 2 gosem.cut.init
theorem ca2 : callable Try.prog 2 = true := by kernel_rfl
-- 3 burrow/burrowlaw30.FrameFeeds
theorem ca3 : callable Try.prog 3 = true := by kernel_rfl
-- 4 burrow/burrowlaw30.FrameArrives
theorem ca4 : callable Try.prog 4 = true := by kernel_rfl
-- 5 burrow/burrowlaw30.FrameDetects
theorem ca5 : callable Try.prog 5 = true := by kernel_rfl
-- 6 burrow/burrowlaw30.FrameEncodes
theorem ca6 : callable Try.prog 6 = true := by kernel_rfl
-- 7 burrow/burrowlaw30.FrameCarries
theorem ca7 : callable Try.prog 7 = true := by kernel_rfl
-- 8 burrow/burrowlaw15.IndexLimits
theorem ca8 : callable Try.prog 8 = true := by kernel_rfl
-- 9 burrow/burrowlaw17.WheelSets
theorem ca9 : callable Try.prog 9 = true := by kernel_rfl
-- 10 burrow/burrowlaw17.WheelDrains
theorem ca10 : callable Try.prog 10 = true := by kernel_rfl
-- 11 burrow/burrowlaw15.IndexTables
theorem ca11 : callable Try.prog 11 = true := by kernel_rfl
-- 12 burrow/burrowlaw15.IndexFresh
theorem ca12 : callable Try.prog 12 = true := by kernel_rfl
-- 13 burrow/burrowlaw17.WheelChanges
theorem ca13 : callable Try.prog 13 = true := by kernel_rfl
-- 14 burrow/burrowlaw30.made
theorem ca14 : callable Try.prog 14 = true := by kernel_rfl
-- 15 burrow/burrowcase.Cut
theorem ca15 : callable Try.prog 15 = true := by kernel_rfl
-- 16 burrow/frame.Feed
theorem ca16 : callable Try.prog 16 = true := by kernel_rfl
-- 17 burrow/burrowref30.Feed
theorem ca17 : callable Try.prog 17 = true := by kernel_rfl
-- 18 burrow/burrowref31.SameReader
theorem ca18 : callable Try.prog 18 = true := by kernel_rfl
-- 19 burrow/burrowref30.Same
theorem ca19 : callable Try.prog 19 = true := by kernel_rfl
-- 20 burrow/burrowlaw30.begun
theorem ca20 : callable Try.prog 20 = true := by kernel_rfl
-- 21 burrow/frame.Encode
theorem ca21 : callable Try.prog 21 = true := by kernel_rfl
-- 22 burrow/burrowlaw30.feed
theorem ca22 : callable Try.prog 22 = true := by kernel_rfl
-- 23 burrow/burrowcase.Mod
theorem ca23 : callable Try.prog 23 = true := by kernel_rfl
-- 24 burrow/burrowref30.Encode
theorem ca24 : callable Try.prog 24 = true := by kernel_rfl
-- 25 burrow/frame.Crc
theorem ca25 : callable Try.prog 25 = true := by kernel_rfl
-- 26 burrow/burrowref30.Crc
theorem ca26 : callable Try.prog 26 = true := by kernel_rfl
-- 27 burrow/frame.Parts
theorem ca27 : callable Try.prog 27 = true := by kernel_rfl
-- 28 burrow/burrowref30.Parts
theorem ca28 : callable Try.prog 28 = true := by kernel_rfl
-- 29 burrow/index.Take
theorem ca29 : callable Try.prog 29 = true := by kernel_rfl
-- 30 burrow/burrowlaw15.begun
theorem ca30 : callable Try.prog 30 = true := by kernel_rfl
-- 31 burrow/burrowlaw17.made
theorem ca31 : callable Try.prog 31 = true := by kernel_rfl
-- 32 burrow/wheel.Set
theorem ca32 : callable Try.prog 32 = true := by kernel_rfl
-- 33 burrow/wheel.Valid
theorem ca33 : callable Try.prog 33 = true := by kernel_rfl
-- 34 burrow/wheel.Has
theorem ca34 : callable Try.prog 34 = true := by kernel_rfl
-- 35 burrow/burrowlaw17.same
theorem ca35 : callable Try.prog 35 = true := by kernel_rfl
-- 36 burrow/wheel.Cancel
theorem ca36 : callable Try.prog 36 = true := by kernel_rfl
-- 37 burrow/burrowlaw17.begun
theorem ca37 : callable Try.prog 37 = true := by kernel_rfl
-- 38 burrow/wheel.Due
theorem ca38 : callable Try.prog 38 = true := by kernel_rfl
-- 39 burrow/burrowlaw15.made
theorem ca39 : callable Try.prog 39 = true := by kernel_rfl
-- 40 burrow/burrowref14.Take
theorem ca40 : callable Try.prog 40 = true := by kernel_rfl
-- 41 burrow/index.Find
theorem ca41 : callable Try.prog 41 = true := by kernel_rfl
-- 42 burrow/burrowref14.FindSlot
theorem ca42 : callable Try.prog 42 = true := by kernel_rfl
-- 43 burrow/burrowlaw15.same
theorem ca43 : callable Try.prog 43 = true := by kernel_rfl
-- 44 burrow/index.Drop
theorem ca44 : callable Try.prog 44 = true := by kernel_rfl
-- 45 burrow/burrowref14.DropSlot
theorem ca45 : callable Try.prog 45 = true := by kernel_rfl
-- 46 burrow/index.Promote
theorem ca46 : callable Try.prog 46 = true := by kernel_rfl
-- 47 burrow/burrowref14.Promote
theorem ca47 : callable Try.prog 47 = true := by kernel_rfl
-- 48 burrow/index.Valid
theorem ca48 : callable Try.prog 48 = true := by kernel_rfl
-- 49 burrow/burrowref14.ValidSlots
theorem ca49 : callable Try.prog 49 = true := by kernel_rfl
-- 50 burrow/burrowcase.Mod64
theorem ca50 : callable Try.prog 50 = true := by kernel_rfl
-- 51 burrow/burrowref14.Set
theorem ca51 : callable Try.prog 51 = true := by kernel_rfl
-- 52 burrow/burrowref14.Cancel
theorem ca52 : callable Try.prog 52 = true := by kernel_rfl
-- 53 burrow/wheel.CancelPeer
theorem ca53 : callable Try.prog 53 = true := by kernel_rfl
-- 54 burrow/burrowref14.CancelPeer
theorem ca54 : callable Try.prog 54 = true := by kernel_rfl
-- 55 burrow/burrowref14.Has
theorem ca55 : callable Try.prog 55 = true := by kernel_rfl
-- 56 burrow/burrowref14.Due
theorem ca56 : callable Try.prog 56 = true := by kernel_rfl
-- 57 burrow/burrowref14.ValidTimers
theorem ca57 : callable Try.prog 57 = true := by kernel_rfl
-- 58 burrow/wheel.Less
theorem ca58 : callable Try.prog 58 = true := by kernel_rfl
-- 59 burrow/burrowref14.LessTimer
theorem ca59 : callable Try.prog 59 = true := by kernel_rfl
-- 60 burrow/burrowcase.New
theorem ca60 : callable Try.prog 60 = true := by kernel_rfl
-- 61 (*burrow/burrowcase.Codes).Next
theorem ca61 : callable Try.prog 61 = true := by kernel_rfl
-- 62 (*burrow/burrowcase.Codes).Bytes
theorem ca62 : callable Try.prog 62 = true := by kernel_rfl
-- 63 slices.Clone[[]byte,byte]
theorem ca63 : callable Try.prog 63 = true := by kernel_rfl
-- 64 (*burrow/frame.stream).frames
theorem ca64 : callable Try.prog 64 = true := by kernel_rfl
-- 65 burrow/burrowref01.Join
theorem ca65 : callable Try.prog 65 = true := by kernel_rfl
-- 66 burrow/burrowref01.ReadBig
theorem ca66 : callable Try.prog 66 = true := by kernel_rfl
-- 67 burrow/burrowref30.sum
theorem ca67 : callable Try.prog 67 = true := by kernel_rfl
-- 68 burrow/burrowref30.kind
theorem ca68 : callable Try.prog 68 = true := by kernel_rfl
-- 69 burrow/frame.known
theorem ca69 : callable Try.prog 69 = true := by kernel_rfl
-- 70 burrow/codec.Join
theorem ca70 : callable Try.prog 70 = true := by kernel_rfl
-- 71 burrow/codec.Big
theorem ca71 : callable Try.prog 71 = true := by kernel_rfl
-- 72 burrow/frame.sum
theorem ca72 : callable Try.prog 72 = true := by kernel_rfl
-- 73 burrow/burrowref01.Big
theorem ca73 : callable Try.prog 73 = true := by kernel_rfl
-- 74 burrow/index.free
theorem ca74 : callable Try.prog 74 = true := by kernel_rfl
-- 75 burrow/index.first[burrow/api.Slot]
theorem ca75 : callable Try.prog 75 = true := by kernel_rfl
-- 76 burrow/index.Take$1
theorem ca76 : callable Try.prog 76 = true := by kernel_rfl
-- 77 slices.Insert[[]burrow/api.Slot,burrow/api.Slot]
theorem ca77 : callable Try.prog 77 = true := by kernel_rfl
-- 78 slices.Clone[[]burrow/api.Slot,burrow/api.Slot]
theorem ca78 : callable Try.prog 78 = true := by kernel_rfl
-- 79 slices.IndexFunc[[]burrow/api.Timer,burrow/api.Timer]
theorem ca79 : callable Try.prog 79 = true := by kernel_rfl
-- 80 burrow/wheel.Set$1
theorem ca80 : callable Try.prog 80 = true := by kernel_rfl
-- 81 slices.Insert[[]burrow/api.Timer,burrow/api.Timer]
theorem ca81 : callable Try.prog 81 = true := by kernel_rfl
-- 82 slices.ContainsFunc[[]burrow/api.Timer,burrow/api.Timer]
theorem ca82 : callable Try.prog 82 = true := by kernel_rfl
-- 83 burrow/wheel.Has$1
theorem ca83 : callable Try.prog 83 = true := by kernel_rfl
-- 84 (burrow/wheel.timer).of
theorem ca84 : callable Try.prog 84 = true := by kernel_rfl
-- 85 slices.DeleteFunc[[]burrow/api.Timer,burrow/api.Timer]
theorem ca85 : callable Try.prog 85 = true := by kernel_rfl
-- 86 slices.Clone[[]burrow/api.Timer,burrow/api.Timer]
theorem ca86 : callable Try.prog 86 = true := by kernel_rfl
-- 87 burrow/wheel.Cancel$1
theorem ca87 : callable Try.prog 87 = true := by kernel_rfl
-- 88 (*burrow/burrowcase.Codes).Bool
theorem ca88 : callable Try.prog 88 = true := by kernel_rfl
-- 89 burrow/index.Find$1
theorem ca89 : callable Try.prog 89 = true := by kernel_rfl
-- 90 slices.DeleteFunc[[]burrow/api.Slot,burrow/api.Slot]
theorem ca90 : callable Try.prog 90 = true := by kernel_rfl
-- 91 burrow/index.Drop$1
theorem ca91 : callable Try.prog 91 = true := by kernel_rfl
-- 92 burrow/wheel.CancelPeer$1
theorem ca92 : callable Try.prog 92 = true := by kernel_rfl
-- 93 (burrow/wheel.timer).before
theorem ca93 : callable Try.prog 93 = true := by kernel_rfl
-- 94 (*burrow/burrowcase.Codes).Left
theorem ca94 : callable Try.prog 94 = true := by kernel_rfl
-- 95 (*burrow/frame.stream).frames$1
theorem ca95 : callable Try.prog 95 = true := by kernel_rfl
-- 96 burrow/codec.ReadBig
theorem ca96 : callable Try.prog 96 = true := by kernel_rfl
-- 97 burrow/codec.Equal
theorem ca97 : callable Try.prog 97 = true := by kernel_rfl
-- 98 (*burrow/frame.stream).fail
theorem ca98 : callable Try.prog 98 = true := by kernel_rfl
-- 99 burrow/burrowref01.Little
theorem ca99 : callable Try.prog 99 = true := by kernel_rfl
-- 100 burrow/index.free$1
theorem ca100 : callable Try.prog 100 = true := by kernel_rfl
-- 101 slices.overlaps[burrow/api.Slot]
-- 102 slices.rotateRight[burrow/api.Slot]
theorem ca102 : callable Try.prog 102 = true := by kernel_rfl
-- 103 slices.overlaps[burrow/api.Timer]
-- 104 slices.rotateRight[burrow/api.Timer]
theorem ca104 : callable Try.prog 104 = true := by kernel_rfl
-- 105 slices.IndexFunc[[]burrow/api.Slot,burrow/api.Slot]
theorem ca105 : callable Try.prog 105 = true := by kernel_rfl
-- 106 bytes.Compare
theorem ca106 : callable Try.prog 106 = true := by kernel_rfl
-- 107 slices.rotateLeft[burrow/api.Slot]
theorem ca107 : callable Try.prog 107 = true := by kernel_rfl
-- 108 slices.rotateLeft[burrow/api.Timer]
theorem ca108 : callable Try.prog 108 = true := by kernel_rfl
-- 109 internal/bytealg.Compare
-- 110 slices.Reverse[[]burrow/api.Slot,burrow/api.Slot]
theorem ca110 : callable Try.prog 110 = true := by kernel_rfl
-- 111 slices.Reverse[[]burrow/api.Timer,burrow/api.Timer]
theorem ca111 : callable Try.prog 111 = true := by kernel_rfl
-- 112 (runtime.boundsError).Error
-- 113 (runtime.boundsError).RuntimeError
-- 114 (runtime.errorString).Error
-- 115 (runtime.errorString).RuntimeError
-- 116 (runtime.plainError).Error
-- 117 (runtime.plainError).RuntimeError
-- 118 (runtime.errorAddressString).Error
-- 119 (runtime.errorAddressString).RuntimeError
-- 120 (*runtime.TypeAssertionError).Error
-- 121 (*runtime.TypeAssertionError).RuntimeError
-- 122 (*runtime.PanicNilError).Error
-- 123 (*runtime.PanicNilError).RuntimeError
-- 124 (*internal/abi.Type).Align
-- 125 (internal/runtime/maps.unhashableTypeError).Error
-- 126 (internal/runtime/maps.unhashableTypeError).RuntimeError
-- 127 (internal/abi.Kind).String

end Go.Proofs.Ytolpcdmcgpgnpaa
