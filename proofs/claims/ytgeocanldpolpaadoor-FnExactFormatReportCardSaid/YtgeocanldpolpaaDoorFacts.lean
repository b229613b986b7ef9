/- What the types of this program are: printed by a program of mine. -/
import Derived.Test.YtgeocanldpolpaaDoorM3Simp
import Derived.Test.YtgeocanldpolpaaDoorProg
import Derived.KernelRfl
set_option linter.unusedVariables false
namespace Go.Proofs
open Go.M3
theorem Tryd.cells0 : Tryd.prog.cellsOf 0 = 1 := by kernel_rfl
theorem Tryd.bytes0 : Tryd.prog.bytesOf 0 = 0 := by kernel_rfl
theorem Tryd.info0 : (Tryd.prog.info? 0).isSome = true := by kernel_rfl
theorem Tryd.cells1 : Tryd.prog.cellsOf 1 = 1 := by kernel_rfl
theorem Tryd.bytes1 : Tryd.prog.bytesOf 1 = 8 := by kernel_rfl
theorem Tryd.zero1 : zeroCellsOf Tryd.prog 1 = some [.nilf] := by kernel_rfl
theorem Tryd.info1 : (Tryd.prog.info? 1).isSome = true := by kernel_rfl
theorem Tryd.cells2 : Tryd.prog.cellsOf 2 = 1 := by kernel_rfl
theorem Tryd.bytes2 : Tryd.prog.bytesOf 2 = 8 := by kernel_rfl
theorem Tryd.zero2 : zeroCellsOf Tryd.prog 2 = some [.int .i64 0] := by kernel_rfl
theorem Tryd.info2 : (Tryd.prog.info? 2).isSome = true := by kernel_rfl
theorem Tryd.cells3 : Tryd.prog.cellsOf 3 = 1 := by kernel_rfl
theorem Tryd.bytes3 : Tryd.prog.bytesOf 3 = 8 := by kernel_rfl
theorem Tryd.zero3 : zeroCellsOf Tryd.prog 3 = some [.int .i64 0] := by kernel_rfl
theorem Tryd.info3 : (Tryd.prog.info? 3).isSome = true := by kernel_rfl
theorem Tryd.cells4 : Tryd.prog.cellsOf 4 = 1 := by kernel_rfl
theorem Tryd.bytes4 : Tryd.prog.bytesOf 4 = 1 := by kernel_rfl
theorem Tryd.zero4 : zeroCellsOf Tryd.prog 4 = some [.bool false] := by kernel_rfl
theorem Tryd.info4 : (Tryd.prog.info? 4).isSome = true := by kernel_rfl
theorem Tryd.cells5 : Tryd.prog.cellsOf 5 = 1 := by kernel_rfl
theorem Tryd.bytes5 : Tryd.prog.bytesOf 5 = 1 := by kernel_rfl
theorem Tryd.zero5 : zeroCellsOf Tryd.prog 5 = some [.int .u8 0] := by kernel_rfl
theorem Tryd.info5 : (Tryd.prog.info? 5).isSome = true := by kernel_rfl
theorem Tryd.cells6 : Tryd.prog.cellsOf 6 = 1 := by kernel_rfl
theorem Tryd.bytes6 : Tryd.prog.bytesOf 6 = 1 := by kernel_rfl
theorem Tryd.zero6 : zeroCellsOf Tryd.prog 6 = some [.int .u8 0] := by kernel_rfl
theorem Tryd.info6 : (Tryd.prog.info? 6).isSome = true := by kernel_rfl
theorem Tryd.cells7 : Tryd.prog.cellsOf 7 = 4 := by kernel_rfl
theorem Tryd.bytes7 : Tryd.prog.bytesOf 7 = 24 := by kernel_rfl
theorem Tryd.zero7 : zeroCellsOf Tryd.prog 7 = some [.int .i64 0, .int .i64 0, .bool false, .int .u8 0] := by kernel_rfl
theorem Tryd.info7 : (Tryd.prog.info? 7).isSome = true := by kernel_rfl
theorem Tryd.cells8 : Tryd.prog.cellsOf 8 = 4 := by kernel_rfl
theorem Tryd.bytes8 : Tryd.prog.bytesOf 8 = 24 := by kernel_rfl
theorem Tryd.zero8 : zeroCellsOf Tryd.prog 8 = some [.int .i64 0, .int .i64 0, .bool false, .int .u8 0] := by kernel_rfl
theorem Tryd.info8 : (Tryd.prog.info? 8).isSome = true := by kernel_rfl
theorem Tryd.cells9 : Tryd.prog.cellsOf 9 = 1 := by kernel_rfl
theorem Tryd.bytes9 : Tryd.prog.bytesOf 9 = 16 := by kernel_rfl
theorem Tryd.zero9 : zeroCellsOf Tryd.prog 9 = some [.str ⟨#[]⟩] := by kernel_rfl
theorem Tryd.info9 : (Tryd.prog.info? 9).isSome = true := by kernel_rfl
theorem Tryd.cells10 : Tryd.prog.cellsOf 10 = 1 := by kernel_rfl
theorem Tryd.bytes10 : Tryd.prog.bytesOf 10 = 16 := by kernel_rfl
theorem Tryd.zero10 : zeroCellsOf Tryd.prog 10 = some [.str ⟨#[]⟩] := by kernel_rfl
theorem Tryd.info10 : (Tryd.prog.info? 10).isSome = true := by kernel_rfl
theorem Tryd.cells11 : Tryd.prog.cellsOf 11 = 1 := by kernel_rfl
theorem Tryd.bytes11 : Tryd.prog.bytesOf 11 = 16 := by kernel_rfl
theorem Tryd.zero11 : zeroCellsOf Tryd.prog 11 = some [.str ⟨#[]⟩] := by kernel_rfl
theorem Tryd.info11 : (Tryd.prog.info? 11).isSome = true := by kernel_rfl
theorem Tryd.cells12 : Tryd.prog.cellsOf 12 = 1 := by kernel_rfl
theorem Tryd.bytes12 : Tryd.prog.bytesOf 12 = 8 := by kernel_rfl
theorem Tryd.zero12 : zeroCellsOf Tryd.prog 12 = some [.int .u64 0] := by kernel_rfl
theorem Tryd.info12 : (Tryd.prog.info? 12).isSome = true := by kernel_rfl
theorem Tryd.cells13 : Tryd.prog.cellsOf 13 = 2 := by kernel_rfl
theorem Tryd.bytes13 : Tryd.prog.bytesOf 13 = 24 := by kernel_rfl
theorem Tryd.zero13 : zeroCellsOf Tryd.prog 13 = some [.str ⟨#[]⟩, .int .u64 0] := by kernel_rfl
theorem Tryd.info13 : (Tryd.prog.info? 13).isSome = true := by kernel_rfl
theorem Tryd.cells14 : Tryd.prog.cellsOf 14 = 2 := by kernel_rfl
theorem Tryd.bytes14 : Tryd.prog.bytesOf 14 = 24 := by kernel_rfl
theorem Tryd.zero14 : zeroCellsOf Tryd.prog 14 = some [.str ⟨#[]⟩, .int .u64 0] := by kernel_rfl
theorem Tryd.info14 : (Tryd.prog.info? 14).isSome = true := by kernel_rfl
theorem Tryd.cells15 : Tryd.prog.cellsOf 15 = 1 := by kernel_rfl
theorem Tryd.bytes15 : Tryd.prog.bytesOf 15 = 8 := by kernel_rfl
theorem Tryd.zero15 : zeroCellsOf Tryd.prog 15 = some [.nilp] := by kernel_rfl
theorem Tryd.info15 : (Tryd.prog.info? 15).isSome = true := by kernel_rfl
theorem Tryd.cells16 : Tryd.prog.cellsOf 16 = 1 := by kernel_rfl
theorem Tryd.bytes16 : Tryd.prog.bytesOf 16 = 8 := by kernel_rfl
theorem Tryd.zero16 : zeroCellsOf Tryd.prog 16 = some [.nilp] := by kernel_rfl
theorem Tryd.info16 : (Tryd.prog.info? 16).isSome = true := by kernel_rfl
theorem Tryd.cells17 : Tryd.prog.cellsOf 17 = 1 := by kernel_rfl
theorem Tryd.bytes17 : Tryd.prog.bytesOf 17 = 8 := by kernel_rfl
theorem Tryd.zero17 : zeroCellsOf Tryd.prog 17 = some [.nilp] := by kernel_rfl
theorem Tryd.info17 : (Tryd.prog.info? 17).isSome = true := by kernel_rfl
theorem Tryd.cells18 : Tryd.prog.cellsOf 18 = 1 := by kernel_rfl
theorem Tryd.bytes18 : Tryd.prog.bytesOf 18 = 8 := by kernel_rfl
theorem Tryd.zero18 : zeroCellsOf Tryd.prog 18 = some [.nilp] := by kernel_rfl
theorem Tryd.info18 : (Tryd.prog.info? 18).isSome = true := by kernel_rfl
theorem Tryd.cells19 : Tryd.prog.cellsOf 19 = 1 := by kernel_rfl
theorem Tryd.bytes19 : Tryd.prog.bytesOf 19 = 8 := by kernel_rfl
theorem Tryd.zero19 : zeroCellsOf Tryd.prog 19 = some [.nilp] := by kernel_rfl
theorem Tryd.info19 : (Tryd.prog.info? 19).isSome = true := by kernel_rfl
theorem Tryd.cells20 : Tryd.prog.cellsOf 20 = 1 := by kernel_rfl
theorem Tryd.bytes20 : Tryd.prog.bytesOf 20 = 16 := by kernel_rfl
theorem Tryd.zero20 : zeroCellsOf Tryd.prog 20 = some [.niliface] := by kernel_rfl
theorem Tryd.info20 : (Tryd.prog.info? 20).isSome = true := by kernel_rfl
theorem Tryd.cells21 : Tryd.prog.cellsOf 21 = 1 := by kernel_rfl
theorem Tryd.bytes21 : Tryd.prog.bytesOf 21 = 4 := by kernel_rfl
theorem Tryd.zero21 : zeroCellsOf Tryd.prog 21 = some [.int .i32 0] := by kernel_rfl
theorem Tryd.info21 : (Tryd.prog.info? 21).isSome = true := by kernel_rfl
theorem Tryd.cells22 : Tryd.prog.cellsOf 22 = 1 := by kernel_rfl
theorem Tryd.bytes22 : Tryd.prog.bytesOf 22 = 24 := by kernel_rfl
theorem Tryd.zero22 : zeroCellsOf Tryd.prog 22 = some [.zsl] := by kernel_rfl
theorem Tryd.info22 : (Tryd.prog.info? 22).isSome = true := by kernel_rfl
theorem Tryd.cells23 : Tryd.prog.cellsOf 23 = 3 := by kernel_rfl
theorem Tryd.bytes23 : Tryd.prog.bytesOf 23 = 56 := by kernel_rfl
theorem Tryd.zero23 : zeroCellsOf Tryd.prog 23 = some [.zsl, .zsl, .int .i64 0] := by kernel_rfl
theorem Tryd.info23 : (Tryd.prog.info? 23).isSome = true := by kernel_rfl
theorem Tryd.cells24 : Tryd.prog.cellsOf 24 = 3 := by kernel_rfl
theorem Tryd.bytes24 : Tryd.prog.bytesOf 24 = 56 := by kernel_rfl
theorem Tryd.zero24 : zeroCellsOf Tryd.prog 24 = some [.zsl, .zsl, .int .i64 0] := by kernel_rfl
theorem Tryd.info24 : (Tryd.prog.info? 24).isSome = true := by kernel_rfl
theorem Tryd.cells25 : Tryd.prog.cellsOf 25 = 1 := by kernel_rfl
theorem Tryd.bytes25 : Tryd.prog.bytesOf 25 = 8 := by kernel_rfl
theorem Tryd.zero25 : zeroCellsOf Tryd.prog 25 = some [.nilf] := by kernel_rfl
theorem Tryd.info25 : (Tryd.prog.info? 25).isSome = true := by kernel_rfl
theorem Tryd.cells26 : Tryd.prog.cellsOf 26 = 1 := by kernel_rfl
theorem Tryd.bytes26 : Tryd.prog.bytesOf 26 = 8 := by kernel_rfl
theorem Tryd.zero26 : zeroCellsOf Tryd.prog 26 = some [.nilf] := by kernel_rfl
theorem Tryd.info26 : (Tryd.prog.info? 26).isSome = true := by kernel_rfl
theorem Tryd.cells27 : Tryd.prog.cellsOf 27 = 3 := by kernel_rfl
theorem Tryd.bytes27 : Tryd.prog.bytesOf 27 = 56 := by kernel_rfl
theorem Tryd.zero27 : zeroCellsOf Tryd.prog 27 = some [.zsl, .zsl, .int .i64 0] := by kernel_rfl
theorem Tryd.info27 : (Tryd.prog.info? 27).isSome = true := by kernel_rfl
theorem Tryd.cells28 : Tryd.prog.cellsOf 28 = 1 := by kernel_rfl
theorem Tryd.bytes28 : Tryd.prog.bytesOf 28 = 8 := by kernel_rfl
theorem Tryd.zero28 : zeroCellsOf Tryd.prog 28 = some [.nilf] := by kernel_rfl
theorem Tryd.info28 : (Tryd.prog.info? 28).isSome = true := by kernel_rfl
theorem Tryd.cells29 : Tryd.prog.cellsOf 29 = 1 := by kernel_rfl
theorem Tryd.bytes29 : Tryd.prog.bytesOf 29 = 8 := by kernel_rfl
theorem Tryd.zero29 : zeroCellsOf Tryd.prog 29 = some [.nilf] := by kernel_rfl
theorem Tryd.info29 : (Tryd.prog.info? 29).isSome = true := by kernel_rfl
theorem Tryd.cells30 : Tryd.prog.cellsOf 30 = 1 := by kernel_rfl
theorem Tryd.bytes30 : Tryd.prog.bytesOf 30 = 8 := by kernel_rfl
theorem Tryd.zero30 : zeroCellsOf Tryd.prog 30 = some [.nilf] := by kernel_rfl
theorem Tryd.info30 : (Tryd.prog.info? 30).isSome = true := by kernel_rfl
theorem Tryd.cells31 : Tryd.prog.cellsOf 31 = 1 := by kernel_rfl
theorem Tryd.bytes31 : Tryd.prog.bytesOf 31 = 8 := by kernel_rfl
theorem Tryd.zero31 : zeroCellsOf Tryd.prog 31 = some [.nilf] := by kernel_rfl
theorem Tryd.info31 : (Tryd.prog.info? 31).isSome = true := by kernel_rfl
theorem Tryd.cells32 : Tryd.prog.cellsOf 32 = 1 := by kernel_rfl
theorem Tryd.bytes32 : Tryd.prog.bytesOf 32 = 8 := by kernel_rfl
theorem Tryd.zero32 : zeroCellsOf Tryd.prog 32 = some [.nilf] := by kernel_rfl
theorem Tryd.info32 : (Tryd.prog.info? 32).isSome = true := by kernel_rfl
theorem Tryd.cells33 : Tryd.prog.cellsOf 33 = 1 := by kernel_rfl
theorem Tryd.bytes33 : Tryd.prog.bytesOf 33 = 8 := by kernel_rfl
theorem Tryd.zero33 : zeroCellsOf Tryd.prog 33 = some [.nilf] := by kernel_rfl
theorem Tryd.info33 : (Tryd.prog.info? 33).isSome = true := by kernel_rfl
theorem Tryd.cells34 : Tryd.prog.cellsOf 34 = 1 := by kernel_rfl
theorem Tryd.bytes34 : Tryd.prog.bytesOf 34 = 8 := by kernel_rfl
theorem Tryd.zero34 : zeroCellsOf Tryd.prog 34 = some [.nilf] := by kernel_rfl
theorem Tryd.info34 : (Tryd.prog.info? 34).isSome = true := by kernel_rfl
theorem Tryd.cells35 : Tryd.prog.cellsOf 35 = 1 := by kernel_rfl
theorem Tryd.bytes35 : Tryd.prog.bytesOf 35 = 8 := by kernel_rfl
theorem Tryd.zero35 : zeroCellsOf Tryd.prog 35 = some [.nilf] := by kernel_rfl
theorem Tryd.info35 : (Tryd.prog.info? 35).isSome = true := by kernel_rfl
theorem Tryd.cells36 : Tryd.prog.cellsOf 36 = 1 := by kernel_rfl
theorem Tryd.bytes36 : Tryd.prog.bytesOf 36 = 8 := by kernel_rfl
theorem Tryd.zero36 : zeroCellsOf Tryd.prog 36 = some [.nilf] := by kernel_rfl
theorem Tryd.info36 : (Tryd.prog.info? 36).isSome = true := by kernel_rfl
theorem Tryd.cells37 : Tryd.prog.cellsOf 37 = 1 := by kernel_rfl
theorem Tryd.bytes37 : Tryd.prog.bytesOf 37 = 8 := by kernel_rfl
theorem Tryd.zero37 : zeroCellsOf Tryd.prog 37 = some [.nilf] := by kernel_rfl
theorem Tryd.info37 : (Tryd.prog.info? 37).isSome = true := by kernel_rfl
theorem Tryd.cells38 : Tryd.prog.cellsOf 38 = 1 := by kernel_rfl
theorem Tryd.bytes38 : Tryd.prog.bytesOf 38 = 24 := by kernel_rfl
theorem Tryd.zero38 : zeroCellsOf Tryd.prog 38 = some [.zsl] := by kernel_rfl
theorem Tryd.info38 : (Tryd.prog.info? 38).isSome = true := by kernel_rfl
theorem Tryd.cells39 : Tryd.prog.cellsOf 39 = 1 := by kernel_rfl
theorem Tryd.bytes39 : Tryd.prog.bytesOf 39 = 24 := by kernel_rfl
theorem Tryd.zero39 : zeroCellsOf Tryd.prog 39 = some [.zsl] := by kernel_rfl
theorem Tryd.info39 : (Tryd.prog.info? 39).isSome = true := by kernel_rfl
theorem Tryd.cells40 : Tryd.prog.cellsOf 40 = 1 := by kernel_rfl
theorem Tryd.bytes40 : Tryd.prog.bytesOf 40 = 8 := by kernel_rfl
theorem Tryd.zero40 : zeroCellsOf Tryd.prog 40 = some [.nilf] := by kernel_rfl
theorem Tryd.info40 : (Tryd.prog.info? 40).isSome = true := by kernel_rfl
theorem Tryd.cells41 : Tryd.prog.cellsOf 41 = 24 := by kernel_rfl
theorem Tryd.bytes41 : Tryd.prog.bytesOf 41 = 24 := by kernel_rfl
theorem Tryd.info41 : (Tryd.prog.info? 41).isSome = true := by kernel_rfl
theorem Tryd.cells42 : Tryd.prog.cellsOf 42 = 1 := by kernel_rfl
theorem Tryd.bytes42 : Tryd.prog.bytesOf 42 = 8 := by kernel_rfl
theorem Tryd.zero42 : zeroCellsOf Tryd.prog 42 = some [.int .u64 0] := by kernel_rfl
theorem Tryd.info42 : (Tryd.prog.info? 42).isSome = true := by kernel_rfl
theorem Tryd.cells43 : Tryd.prog.cellsOf 43 = 1 := by kernel_rfl
theorem Tryd.bytes43 : Tryd.prog.bytesOf 43 = 8 := by kernel_rfl
theorem Tryd.zero43 : zeroCellsOf Tryd.prog 43 = some [.nilf] := by kernel_rfl
theorem Tryd.info43 : (Tryd.prog.info? 43).isSome = true := by kernel_rfl
theorem Tryd.cells44 : Tryd.prog.cellsOf 44 = 1 := by kernel_rfl
theorem Tryd.bytes44 : Tryd.prog.bytesOf 44 = 8 := by kernel_rfl
theorem Tryd.zero44 : zeroCellsOf Tryd.prog 44 = some [.nilf] := by kernel_rfl
theorem Tryd.info44 : (Tryd.prog.info? 44).isSome = true := by kernel_rfl
theorem Tryd.cells45 : Tryd.prog.cellsOf 45 = 1 := by kernel_rfl
theorem Tryd.bytes45 : Tryd.prog.bytesOf 45 = 0 := by kernel_rfl
theorem Tryd.info45 : (Tryd.prog.info? 45).isSome = true := by kernel_rfl
theorem Tryd.cells46 : Tryd.prog.cellsOf 46 = 1 := by kernel_rfl
theorem Tryd.bytes46 : Tryd.prog.bytesOf 46 = 8 := by kernel_rfl
theorem Tryd.zero46 : zeroCellsOf Tryd.prog 46 = some [.nilf] := by kernel_rfl
theorem Tryd.info46 : (Tryd.prog.info? 46).isSome = true := by kernel_rfl
theorem Tryd.cells47 : Tryd.prog.cellsOf 47 = 1 := by kernel_rfl
theorem Tryd.bytes47 : Tryd.prog.bytesOf 47 = 8 := by kernel_rfl
theorem Tryd.zero47 : zeroCellsOf Tryd.prog 47 = some [.nilf] := by kernel_rfl
theorem Tryd.info47 : (Tryd.prog.info? 47).isSome = true := by kernel_rfl
theorem Tryd.cells48 : Tryd.prog.cellsOf 48 = 1 := by kernel_rfl
theorem Tryd.bytes48 : Tryd.prog.bytesOf 48 = 8 := by kernel_rfl
theorem Tryd.zero48 : zeroCellsOf Tryd.prog 48 = some [.nilf] := by kernel_rfl
theorem Tryd.info48 : (Tryd.prog.info? 48).isSome = true := by kernel_rfl
theorem Tryd.cells49 : Tryd.prog.cellsOf 49 = 20 := by kernel_rfl
theorem Tryd.bytes49 : Tryd.prog.bytesOf 49 = 160 := by kernel_rfl
theorem Tryd.info49 : (Tryd.prog.info? 49).isSome = true := by kernel_rfl
theorem Tryd.cells50 : Tryd.prog.cellsOf 50 = 1 := by kernel_rfl
theorem Tryd.bytes50 : Tryd.prog.bytesOf 50 = 4 := by kernel_rfl
theorem Tryd.zero50 : zeroCellsOf Tryd.prog 50 = some [.int .u32 0] := by kernel_rfl
theorem Tryd.info50 : (Tryd.prog.info? 50).isSome = true := by kernel_rfl
theorem Tryd.cells51 : Tryd.prog.cellsOf 51 = 65 := by kernel_rfl
theorem Tryd.bytes51 : Tryd.prog.bytesOf 51 = 65 := by kernel_rfl
theorem Tryd.info51 : (Tryd.prog.info? 51).isSome = true := by kernel_rfl
theorem Tryd.cells52 : Tryd.prog.cellsOf 52 = 1 := by kernel_rfl
theorem Tryd.bytes52 : Tryd.prog.bytesOf 52 = 8 := by kernel_rfl
theorem Tryd.zero52 : zeroCellsOf Tryd.prog 52 = some [.nilf] := by kernel_rfl
theorem Tryd.info52 : (Tryd.prog.info? 52).isSome = true := by kernel_rfl
theorem Tryd.cells53 : Tryd.prog.cellsOf 53 = 1 := by kernel_rfl
theorem Tryd.bytes53 : Tryd.prog.bytesOf 53 = 8 := by kernel_rfl
theorem Tryd.zero53 : zeroCellsOf Tryd.prog 53 = some [.int .u64 0] := by kernel_rfl
theorem Tryd.info53 : (Tryd.prog.info? 53).isSome = true := by kernel_rfl
theorem Tryd.cells54 : Tryd.prog.cellsOf 54 = 1 := by kernel_rfl
theorem Tryd.bytes54 : Tryd.prog.bytesOf 54 = 8 := by kernel_rfl
theorem Tryd.zero54 : zeroCellsOf Tryd.prog 54 = some [.nilf] := by kernel_rfl
theorem Tryd.info54 : (Tryd.prog.info? 54).isSome = true := by kernel_rfl
theorem Tryd.cells55 : Tryd.prog.cellsOf 55 = 1 := by kernel_rfl
theorem Tryd.bytes55 : Tryd.prog.bytesOf 55 = 8 := by kernel_rfl
theorem Tryd.zero55 : zeroCellsOf Tryd.prog 55 = some [.nilf] := by kernel_rfl
theorem Tryd.info55 : (Tryd.prog.info? 55).isSome = true := by kernel_rfl
theorem Tryd.cells56 : Tryd.prog.cellsOf 56 = 32 := by kernel_rfl
theorem Tryd.bytes56 : Tryd.prog.bytesOf 56 = 32 := by kernel_rfl
theorem Tryd.info56 : (Tryd.prog.info? 56).isSome = true := by kernel_rfl
theorem Tryd.cells57 : Tryd.prog.cellsOf 57 = 64 := by kernel_rfl
theorem Tryd.bytes57 : Tryd.prog.bytesOf 57 = 64 := by kernel_rfl
theorem Tryd.info57 : (Tryd.prog.info? 57).isSome = true := by kernel_rfl
theorem Tryd.cells58 : Tryd.prog.cellsOf 58 = 1 := by kernel_rfl
theorem Tryd.bytes58 : Tryd.prog.bytesOf 58 = 8 := by kernel_rfl
theorem Tryd.zero58 : zeroCellsOf Tryd.prog 58 = some [.nilf] := by kernel_rfl
theorem Tryd.info58 : (Tryd.prog.info? 58).isSome = true := by kernel_rfl
theorem Tryd.cells59 : Tryd.prog.cellsOf 59 = 4 := by kernel_rfl
theorem Tryd.bytes59 : Tryd.prog.bytesOf 59 = 40 := by kernel_rfl
theorem Tryd.zero59 : zeroCellsOf Tryd.prog 59 = some [.nilp, .nilp, .nilp, .str ⟨#[]⟩] := by kernel_rfl
theorem Tryd.info59 : (Tryd.prog.info? 59).isSome = true := by kernel_rfl
theorem Tryd.cells60 : Tryd.prog.cellsOf 60 = 4 := by kernel_rfl
theorem Tryd.bytes60 : Tryd.prog.bytesOf 60 = 40 := by kernel_rfl
theorem Tryd.zero60 : zeroCellsOf Tryd.prog 60 = some [.nilp, .nilp, .nilp, .str ⟨#[]⟩] := by kernel_rfl
theorem Tryd.info60 : (Tryd.prog.info? 60).isSome = true := by kernel_rfl
theorem Tryd.cells61 : Tryd.prog.cellsOf 61 = 0 := by kernel_rfl
theorem Tryd.bytes61 : Tryd.prog.bytesOf 61 = 0 := by kernel_rfl
theorem Tryd.info61 : (Tryd.prog.info? 61).isSome = true := by kernel_rfl
theorem Tryd.cells62 : Tryd.prog.cellsOf 62 = 0 := by kernel_rfl
theorem Tryd.bytes62 : Tryd.prog.bytesOf 62 = 0 := by kernel_rfl
theorem Tryd.info62 : (Tryd.prog.info? 62).isSome = true := by kernel_rfl
theorem Tryd.cells63 : Tryd.prog.cellsOf 63 = 0 := by kernel_rfl
theorem Tryd.bytes63 : Tryd.prog.bytesOf 63 = 0 := by kernel_rfl
theorem Tryd.info63 : (Tryd.prog.info? 63).isSome = true := by kernel_rfl
theorem Tryd.cells64 : Tryd.prog.cellsOf 64 = 1 := by kernel_rfl
theorem Tryd.bytes64 : Tryd.prog.bytesOf 64 = 8 := by kernel_rfl
theorem Tryd.zero64 : zeroCellsOf Tryd.prog 64 = some [.nilf] := by kernel_rfl
theorem Tryd.info64 : (Tryd.prog.info? 64).isSome = true := by kernel_rfl
theorem Tryd.cells65 : Tryd.prog.cellsOf 65 = 1 := by kernel_rfl
theorem Tryd.bytes65 : Tryd.prog.bytesOf 65 = 1 := by kernel_rfl
theorem Tryd.zero65 : zeroCellsOf Tryd.prog 65 = some [.int .u8 0] := by kernel_rfl
theorem Tryd.info65 : (Tryd.prog.info? 65).isSome = true := by kernel_rfl
theorem Tryd.cells66 : Tryd.prog.cellsOf 66 = 1 := by kernel_rfl
theorem Tryd.bytes66 : Tryd.prog.bytesOf 66 = 1 := by kernel_rfl
theorem Tryd.zero66 : zeroCellsOf Tryd.prog 66 = some [.int .u8 0] := by kernel_rfl
theorem Tryd.info66 : (Tryd.prog.info? 66).isSome = true := by kernel_rfl
theorem Tryd.cells67 : Tryd.prog.cellsOf 67 = 1 := by kernel_rfl
theorem Tryd.bytes67 : Tryd.prog.bytesOf 67 = 8 := by kernel_rfl
theorem Tryd.zero67 : zeroCellsOf Tryd.prog 67 = some [.nilf] := by kernel_rfl
theorem Tryd.info67 : (Tryd.prog.info? 67).isSome = true := by kernel_rfl
theorem Tryd.cells68 : Tryd.prog.cellsOf 68 = 1 := by kernel_rfl
theorem Tryd.bytes68 : Tryd.prog.bytesOf 68 = 8 := by kernel_rfl
theorem Tryd.zero68 : zeroCellsOf Tryd.prog 68 = some [.nilp] := by kernel_rfl
theorem Tryd.info68 : (Tryd.prog.info? 68).isSome = true := by kernel_rfl
theorem Tryd.cells69 : Tryd.prog.cellsOf 69 = 1 := by kernel_rfl
theorem Tryd.bytes69 : Tryd.prog.bytesOf 69 = 4 := by kernel_rfl
theorem Tryd.zero69 : zeroCellsOf Tryd.prog 69 = some [.int .i32 0] := by kernel_rfl
theorem Tryd.info69 : (Tryd.prog.info? 69).isSome = true := by kernel_rfl
theorem Tryd.cells70 : Tryd.prog.cellsOf 70 = 1 := by kernel_rfl
theorem Tryd.bytes70 : Tryd.prog.bytesOf 70 = 4 := by kernel_rfl
theorem Tryd.zero70 : zeroCellsOf Tryd.prog 70 = some [.int .i32 0] := by kernel_rfl
theorem Tryd.info70 : (Tryd.prog.info? 70).isSome = true := by kernel_rfl
theorem Tryd.cells71 : Tryd.prog.cellsOf 71 = 11 := by kernel_rfl
theorem Tryd.bytes71 : Tryd.prog.bytesOf 71 = 48 := by kernel_rfl
theorem Tryd.zero71 : zeroCellsOf Tryd.prog 71 = some [.int .u64 0, .int .u64 0, .int .u32 0, .int .u8 0, .int .u8 0, .int .u8 0, .int .u8 0, .nilf, .nilp, .int .i32 0, .int .i32 0] := by kernel_rfl
theorem Tryd.info71 : (Tryd.prog.info? 71).isSome = true := by kernel_rfl
theorem Tryd.cells72 : Tryd.prog.cellsOf 72 = 11 := by kernel_rfl
theorem Tryd.bytes72 : Tryd.prog.bytesOf 72 = 48 := by kernel_rfl
theorem Tryd.zero72 : zeroCellsOf Tryd.prog 72 = some [.int .u64 0, .int .u64 0, .int .u32 0, .int .u8 0, .int .u8 0, .int .u8 0, .int .u8 0, .nilf, .nilp, .int .i32 0, .int .i32 0] := by kernel_rfl
theorem Tryd.info72 : (Tryd.prog.info? 72).isSome = true := by kernel_rfl
theorem Tryd.cells73 : Tryd.prog.cellsOf 73 = 1 := by kernel_rfl
theorem Tryd.bytes73 : Tryd.prog.bytesOf 73 = 8 := by kernel_rfl
theorem Tryd.info73 : (Tryd.prog.info? 73).isSome = true := by kernel_rfl
attribute [simp] Tryd.cells0 Tryd.bytes0 Tryd.info0 Tryd.underlying0 Tryd.cells1 Tryd.bytes1 Tryd.zero1 Tryd.info1 Tryd.underlying1 Tryd.cells2 Tryd.bytes2 Tryd.zero2 Tryd.info2 Tryd.underlying2 Tryd.cells3 Tryd.bytes3 Tryd.zero3 Tryd.info3 Tryd.underlying3 Tryd.cells4 Tryd.bytes4 Tryd.zero4 Tryd.info4 Tryd.underlying4 Tryd.cells5 Tryd.bytes5 Tryd.zero5 Tryd.info5 Tryd.underlying5 Tryd.cells6 Tryd.bytes6 Tryd.zero6 Tryd.info6 Tryd.underlying6 Tryd.cells7 Tryd.bytes7 Tryd.zero7 Tryd.info7 Tryd.underlying7 Tryd.cells8
attribute [simp] Tryd.bytes8 Tryd.zero8 Tryd.info8 Tryd.underlying8 Tryd.cells9 Tryd.bytes9 Tryd.zero9 Tryd.info9 Tryd.underlying9 Tryd.cells10 Tryd.bytes10 Tryd.zero10 Tryd.info10 Tryd.underlying10 Tryd.cells11 Tryd.bytes11 Tryd.zero11 Tryd.info11 Tryd.underlying11 Tryd.cells12 Tryd.bytes12 Tryd.zero12 Tryd.info12 Tryd.underlying12 Tryd.cells13 Tryd.bytes13 Tryd.zero13 Tryd.info13 Tryd.underlying13 Tryd.cells14 Tryd.bytes14 Tryd.zero14 Tryd.info14 Tryd.underlying14 Tryd.cells15 Tryd.bytes15 Tryd.zero15 Tryd.info15 Tryd.underlying15 Tryd.cells16
attribute [simp] Tryd.bytes16 Tryd.zero16 Tryd.info16 Tryd.underlying16 Tryd.cells17 Tryd.bytes17 Tryd.zero17 Tryd.info17 Tryd.underlying17 Tryd.cells18 Tryd.bytes18 Tryd.zero18 Tryd.info18 Tryd.underlying18 Tryd.cells19 Tryd.bytes19 Tryd.zero19 Tryd.info19 Tryd.underlying19 Tryd.cells20 Tryd.bytes20 Tryd.zero20 Tryd.info20 Tryd.underlying20 Tryd.cells21 Tryd.bytes21 Tryd.zero21 Tryd.info21 Tryd.underlying21 Tryd.cells22 Tryd.bytes22 Tryd.zero22 Tryd.info22 Tryd.underlying22 Tryd.cells23 Tryd.bytes23 Tryd.zero23 Tryd.info23 Tryd.underlying23 Tryd.cells24
attribute [simp] Tryd.bytes24 Tryd.zero24 Tryd.info24 Tryd.underlying24 Tryd.cells25 Tryd.bytes25 Tryd.zero25 Tryd.info25 Tryd.underlying25 Tryd.cells26 Tryd.bytes26 Tryd.zero26 Tryd.info26 Tryd.underlying26 Tryd.cells27 Tryd.bytes27 Tryd.zero27 Tryd.info27 Tryd.underlying27 Tryd.cells28 Tryd.bytes28 Tryd.zero28 Tryd.info28 Tryd.underlying28 Tryd.cells29 Tryd.bytes29 Tryd.zero29 Tryd.info29 Tryd.underlying29 Tryd.cells30 Tryd.bytes30 Tryd.zero30 Tryd.info30 Tryd.underlying30 Tryd.cells31 Tryd.bytes31 Tryd.zero31 Tryd.info31 Tryd.underlying31 Tryd.cells32
attribute [simp] Tryd.bytes32 Tryd.zero32 Tryd.info32 Tryd.underlying32 Tryd.cells33 Tryd.bytes33 Tryd.zero33 Tryd.info33 Tryd.underlying33 Tryd.cells34 Tryd.bytes34 Tryd.zero34 Tryd.info34 Tryd.underlying34 Tryd.cells35 Tryd.bytes35 Tryd.zero35 Tryd.info35 Tryd.underlying35 Tryd.cells36 Tryd.bytes36 Tryd.zero36 Tryd.info36 Tryd.underlying36 Tryd.cells37 Tryd.bytes37 Tryd.zero37 Tryd.info37 Tryd.underlying37 Tryd.cells38 Tryd.bytes38 Tryd.zero38 Tryd.info38 Tryd.underlying38 Tryd.cells39 Tryd.bytes39 Tryd.zero39 Tryd.info39 Tryd.underlying39 Tryd.cells40
attribute [simp] Tryd.bytes40 Tryd.zero40 Tryd.info40 Tryd.underlying40 Tryd.cells41 Tryd.bytes41 Tryd.info41 Tryd.underlying41 Tryd.cells42 Tryd.bytes42 Tryd.zero42 Tryd.info42 Tryd.underlying42 Tryd.cells43 Tryd.bytes43 Tryd.zero43 Tryd.info43 Tryd.underlying43 Tryd.cells44 Tryd.bytes44 Tryd.zero44 Tryd.info44 Tryd.underlying44 Tryd.cells45 Tryd.bytes45 Tryd.info45 Tryd.underlying45 Tryd.cells46 Tryd.bytes46 Tryd.zero46 Tryd.info46 Tryd.underlying46 Tryd.cells47 Tryd.bytes47 Tryd.zero47 Tryd.info47 Tryd.underlying47 Tryd.cells48 Tryd.bytes48 Tryd.zero48
attribute [simp] Tryd.info48 Tryd.underlying48 Tryd.cells49 Tryd.bytes49 Tryd.info49 Tryd.underlying49 Tryd.cells50 Tryd.bytes50 Tryd.zero50 Tryd.info50 Tryd.underlying50 Tryd.cells51 Tryd.bytes51 Tryd.info51 Tryd.underlying51 Tryd.cells52 Tryd.bytes52 Tryd.zero52 Tryd.info52 Tryd.underlying52 Tryd.cells53 Tryd.bytes53 Tryd.zero53 Tryd.info53 Tryd.underlying53 Tryd.cells54 Tryd.bytes54 Tryd.zero54 Tryd.info54 Tryd.underlying54 Tryd.cells55 Tryd.bytes55 Tryd.zero55 Tryd.info55 Tryd.underlying55 Tryd.cells56 Tryd.bytes56 Tryd.info56 Tryd.underlying56 Tryd.cells57
attribute [simp] Tryd.bytes57 Tryd.info57 Tryd.underlying57 Tryd.cells58 Tryd.bytes58 Tryd.zero58 Tryd.info58 Tryd.underlying58 Tryd.cells59 Tryd.bytes59 Tryd.zero59 Tryd.info59 Tryd.underlying59 Tryd.cells60 Tryd.bytes60 Tryd.zero60 Tryd.info60 Tryd.underlying60 Tryd.cells61 Tryd.bytes61 Tryd.info61 Tryd.underlying61 Tryd.cells62 Tryd.bytes62 Tryd.info62 Tryd.underlying62 Tryd.cells63 Tryd.bytes63 Tryd.info63 Tryd.underlying63 Tryd.cells64 Tryd.bytes64 Tryd.zero64 Tryd.info64 Tryd.underlying64 Tryd.cells65 Tryd.bytes65 Tryd.zero65 Tryd.info65 Tryd.underlying65
attribute [simp] Tryd.cells66 Tryd.bytes66 Tryd.zero66 Tryd.info66 Tryd.underlying66 Tryd.cells67 Tryd.bytes67 Tryd.zero67 Tryd.info67 Tryd.underlying67 Tryd.cells68 Tryd.bytes68 Tryd.zero68 Tryd.info68 Tryd.underlying68 Tryd.cells69 Tryd.bytes69 Tryd.zero69 Tryd.info69 Tryd.underlying69 Tryd.cells70 Tryd.bytes70 Tryd.zero70 Tryd.info70 Tryd.underlying70 Tryd.cells71 Tryd.bytes71 Tryd.zero71 Tryd.info71 Tryd.underlying71 Tryd.cells72 Tryd.bytes72 Tryd.zero72 Tryd.info72 Tryd.underlying72 Tryd.cells73 Tryd.bytes73 Tryd.info73 Tryd.underlying73
end Go.Proofs
